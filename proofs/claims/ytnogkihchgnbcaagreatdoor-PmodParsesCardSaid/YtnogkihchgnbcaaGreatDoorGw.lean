/- Joined texts: W2, W3, W4, W5c, W5k, X2. -/
import Derived.Test.YtnogkihchgnbcaaGreatDoorGp
/- Types out of tokens: the program's parser and the document's come to the same. -/
namespace Go.Proofs.YtnogkihchgnbcaaGreatDoor
open Go Go.Am Go.Sx
abbrev Token := Int × List UInt8 × Int × Int
def tokAt (l : List Token) (i : Int) : Option Token := if 0 ≤ i ∧ i < (l.length : Int) then getI l i else none
def keyS (l : List Token) (i : Int) (t : List UInt8) : Bool := match tokAt l i with
  | some k => decide (k.1 = 3) && decide (k.2.1 = t)
  | none => false
def nameS (l : List Token) (i : Int) : List UInt8 × Bool := match tokAt l i with
  | some k => if k.1 = 1 ∧ ckS k.2.1 = true then (k.2.1, true) else ([], false)
  | none => ([], false)
def longS (l : List Token) (i : Int) : List UInt8 × Bool := match tokAt l i with
  | some k => if k.1 = 1 ∧ lgS k.2.1 = true then (k.2.1, true) else ([], false)
  | none => ([], false)
theorem tok_none {l : List Token} {i : Int} (h : ¬ (0 ≤ i ∧ i < (l.length : Int))) : tokAt l i = none := if_neg h
theorem tok_some {l : List Token} {i : Int} (h : 0 ≤ i ∧ i < (l.length : Int)) : ∃ k, k ∈ l ∧ getI l i = some k ∧ tokAt l i = some k := by
  have hlt : i.toNat < l.length := by omega
  exact ⟨l[i.toNat], List.getElem_mem hlt, getI_int h.1 hlt, by unfold tokAt; rw [if_pos h]; exact getI_int h.1 hlt⟩
theorem key_in {l : List Token} {i : Int} {t : List UInt8} (h : keyS l i t = true) : 0 ≤ i ∧ i < (l.length : Int) := by
  by_cases hi : 0 ≤ i ∧ i < (l.length : Int)
  · exact hi
  · unfold keyS at h; rw [tok_none hi] at h; cases h
theorem name_in {l : List Token} {i : Int} (h : (nameS l i).2 = true) : 0 ≤ i ∧ i < (l.length : Int) := by
  by_cases hi : 0 ≤ i ∧ i < (l.length : Int)
  · exact hi
  · unfold nameS at h; rw [tok_none hi] at h; cases h
theorem long_in {l : List Token} {i : Int} (h : (longS l i).2 = true) : 0 ≤ i ∧ i < (l.length : Int) := by
  by_cases hi : 0 ≤ i ∧ i < (l.length : Int)
  · exact hi
  · unfold longS at h; rw [tok_none hi] at h; cases h

section
variable {l : List Token} (hT : ∀ k ∈ l, k.2.1.length ≤ 1099511627776)
theorem ev_in {l : List Token} (i : Int) : Ev (fun K => ptype_in K l i) (decide (0 ≤ i ∧ i < (l.length : Int))) := by
  refine Ev.congr (f := fun K => _) ?_ (fun k => by rw [ptype_in])
  refine Ev.d (fun h => Ev.pure' ?_) (fun h => Ev.pure' (by rw [decide_eq_false (fun h' => h h'.1)]))
  by_cases h2 : i < (l.length : Int)
  · rw [decide_eq_true h2, decide_eq_true ⟨h, h2⟩]
  · rw [decide_eq_false h2, decide_eq_false fun h' => h2 h'.2]
theorem ev_pKey (l : List Token) (i : Int) (t : List UInt8) : Ev (fun K => ptype_Key K l i t) (keyS l i t) := by
  refine Ev.congr (f := fun K => _) ?_ (fun k => by rw [ptype_Key])
  refine Ev.bind (ev_in i) ?_
  unfold keyS
  by_cases h : 0 ≤ i ∧ i < (l.length : Int)
  · obtain ⟨k, _, h1, h2⟩ := tok_some h
    rw [h2]
    refine Ev.dT h (Ev.opt h1 (Ev.d (fun e => Ev.opt h1 (Ev.pure' ?_)) (fun e => Ev.pure' ?_)))
    · simp only [decide_eq_true e, Bool.true_and]
    · simp only [decide_eq_false e, Bool.false_and]
  · rw [tok_none h]; exact Ev.dF h Ev.pure
theorem ev_rKey (l : List Token) (i : Int) (t : List UInt8) : Ev (fun K => ref06_Key K l i t) (keyS l i t) := by
  refine Ev.congr (f := fun K => _) ?_ (fun k => by rw [ref06_Key])
  unfold keyS
  by_cases h : 0 ≤ i ∧ i < (l.length : Int)
  · obtain ⟨k, _, h1, h2⟩ := tok_some h
    rw [h2]
    refine Ev.dT h.1 (Ev.dT h.2 (Ev.opt h1 (Ev.d (fun e => Ev.opt h1 (Ev.pure' ?_)) (fun e => Ev.pure' ?_))))
    · simp only [decide_eq_true e, Bool.true_and]
    · simp only [decide_eq_false e, Bool.false_and]
  · rw [tok_none h]
    exact Ev.d (fun h1 => Ev.dF (fun h2 => h ⟨h1, h2⟩) Ev.pure) (fun _ => Ev.pure)
theorem ev_pName (l : List Token) (i : Int) : Ev (fun K => ptype_Name K l i) (nameS l i) := by
  refine Ev.congr (f := fun K => _) ?_ (fun k => by rw [ptype_Name])
  refine Ev.bind (ev_in i) ?_
  unfold nameS
  by_cases h : 0 ≤ i ∧ i < (l.length : Int)
  · obtain ⟨k, _, h1, h2⟩ := tok_some h
    rw [h2]
    refine Ev.nF h (Ev.opt h1 (Ev.n (fun e => Ev.pure' ?_) (fun e => Ev.opt h1 (Ev.bind (ev_check1 _) ?_))))
    · simp only []; rw [if_neg fun h' => e h'.1]
    · simp only []
      cases hc : ckS k.2.1 with
      | false => rw [if_neg (by simp)]; exact Ev.isT rfl Ev.pure
      | true => rw [if_pos ⟨e, rfl⟩]; exact Ev.isF rfl (Ev.opt h1 Ev.pure)
  · rw [tok_none h]; exact Ev.nT h Ev.pure
theorem ev_pLong (l : List Token) (i : Int) : Ev (fun K => ptype_Long K l i) (longS l i) := by
  refine Ev.congr (f := fun K => _) ?_ (fun k => by rw [ptype_Long])
  refine Ev.bind (ev_in i) ?_
  unfold longS
  by_cases h : 0 ≤ i ∧ i < (l.length : Int)
  · obtain ⟨k, _, h1, h2⟩ := tok_some h
    rw [h2]
    refine Ev.nF h (Ev.opt h1 (Ev.n (fun e => Ev.pure' ?_) (fun e => Ev.opt h1 (Ev.bind (ev_long1 _) ?_))))
    · simp only []; rw [if_neg fun h' => e h'.1]
    · simp only []
      cases hc : lgS k.2.1 with
      | false => rw [if_neg (by simp)]; exact Ev.isT rfl Ev.pure
      | true => rw [if_pos ⟨e, rfl⟩]; exact Ev.isF rfl (Ev.opt h1 Ev.pure)
  · rw [tok_none h]; exact Ev.nT h Ev.pure
include hT in
theorem ev_rName (i : Int) : Ev (fun K => ref06_Name K l i) (nameS l i) := by
  refine Ev.congr (f := fun K => _) ?_ (fun k => by rw [ref06_Name])
  unfold nameS
  by_cases h : 0 ≤ i ∧ i < (l.length : Int)
  · obtain ⟨k, hm, h1, h2⟩ := tok_some h
    rw [h2]
    refine Ev.dT h.1 (Ev.dT h.2 (Ev.opt h1 (Ev.d (fun e => Ev.opt h1 (Ev.bind (ev_check2 _ (by have := hT k hm; omega)) ?_)) (fun e => Ev.pure' ?_))))
    · simp only []
      cases hc : ckS k.2.1 with
      | false => rw [if_neg (by simp)]; exact Ev.isF rfl Ev.pure
      | true => rw [if_pos ⟨e, rfl⟩]; exact Ev.isT rfl (Ev.opt h1 Ev.pure)
    · simp only []; rw [if_neg fun h' => e h'.1]
  · rw [tok_none h]
    exact Ev.d (fun h1 => Ev.dF (fun h2 => h ⟨h1, h2⟩) Ev.pure) (fun _ => Ev.pure)
theorem ev_rLong (l : List Token) (i : Int) : Ev (fun K => ref06_Long K l i) (longS l i) := by
  refine Ev.congr (f := fun K => _) ?_ (fun k => by rw [ref06_Long])
  unfold longS
  by_cases h : 0 ≤ i ∧ i < (l.length : Int)
  · obtain ⟨k, _, h1, h2⟩ := tok_some h
    rw [h2]
    refine Ev.dT h.1 (Ev.dT h.2 (Ev.opt h1 (Ev.d (fun e => Ev.opt h1 (Ev.bind (ev_long2 _) ?_)) (fun e => Ev.pure' ?_))))
    · simp only []
      cases hc : lgS k.2.1 with
      | false => rw [if_neg (by simp)]; exact Ev.isF rfl Ev.pure
      | true => rw [if_pos ⟨e, rfl⟩]; exact Ev.isT rfl (Ev.opt h1 Ev.pure)
    · simp only []; rw [if_neg fun h' => e h'.1]
  · rw [tok_none h]
    exact Ev.d (fun h1 => Ev.dF (fun h2 => h ⟨h1, h2⟩) Ev.pure) (fun _ => Ev.pure)
end

/-! ### the program's parser, behind an error -/
section
variable (l : List Token) (i e : Int) (he : e ≠ 0)
include he
theorem key_err (t : List UInt8) : Ev (fun K => ptype_parser_key K l i e t) (false, l, i, e) :=
  Ev.congr (f := fun K => _) (Ev.nT he Ev.pure) (fun k => by rw [ptype_parser_key])
theorem fail_err (c : Int) : Ev (fun K => ptype_parser_fail K l i e c) (l, i, e) :=
  Ev.congr (f := fun K => _) (Ev.dF he Ev.pure) (fun k => by rw [ptype_parser_fail])
theorem must_err (t : List UInt8) : Ev (fun K => ptype_parser_must K l i e t) (l, i, e) := by
  refine Ev.congr (f := fun K => _) ?_ (fun k => by rw [ptype_parser_must])
  refine Ev.bind (key_err l i e he t) ?_
  refine Ev.isT rfl ?_
  exact Ev.bind (fail_err l i e he 6) Ev.pure
theorem atom_err : Ev (fun K => ptype_parser_atom K l i e) (.nil, l, i, e) :=
  Ev.step (fun k => by rw [ptype_parser_atom]) (Ev.nT he Ev.pure)
theorem two_err (t : Tr) (s : List UInt8) (c : Int) : Ev (fun K => ptype_parser_two K l i e t s c) (t, l, i, e) := by
  refine Ev.step (fun k => by rw [ptype_parser_two]) ?_
  refine Ev.bind (key_err l i e he s) ?_
  exact Ev.isT rfl Ev.pure
theorem two2_err (t : Tr) (s : List UInt8) (c : Int) : Ev (fun K => ptype_parser_two_2 K l i e t s c) (t, l, i, e) := by
  refine Ev.step (fun k => by rw [ptype_parser_two_2]) ?_
  refine Ev.bind (key_err l i e he s) ?_
  exact Ev.isT rfl Ev.pure
theorem product_err : Ev (fun K => ptype_parser_product K l i e) (.nil, l, i, e) :=
  Ev.step (fun k => by rw [ptype_parser_product]) (Ev.bind (atom_err l i e he) (Ev.bind (two_err l i e he _ _ _) Ev.pure))
theorem typ_err : Ev (fun K => ptype_parser_typ K l i e) (.nil, l, i, e) :=
  Ev.step (fun k => by rw [ptype_parser_typ]) (Ev.bind (product_err l i e he) (Ev.bind (two2_err l i e he _ _ _) Ev.pure))
theorem cons_err : Ev (fun K => ptype_parser_cons K l i e) ([], l, i, e) := by
  refine Ev.step (fun k => by rw [ptype_parser_cons]) ?_
  exact Ev.step (fun k => by rw [ptype_parser_cons_l0]) (Ev.dF he Ev.pure)
/-- what is left of a round of constructors behind an error -/
theorem cons_c0_err {out : List Tr} (hout : out.length ≤ 1048576) (s : List UInt8) (sn : List (List UInt8 × Bool)) : ∃ out', Ev (fun K => ptype_parser_cons_c0 K out s l i e sn) (out', l, i, e) := by
  refine ⟨out ++ [.node 8 0 s [] [.nil]], Ev.step (fun k => by rw [ptype_parser_cons_c0]) ?_⟩
  refine Ev.bind (must_err l i e he _) (Ev.bind (typ_err l i e he) (Ev.bind (a := .node 8 0 s [] [.nil]) ⟨0, fun _ _ => rfl⟩ (Ev.opt (appL_ok (by simp; omega)) (Ev.bind (key_err l i e he _) ?_))))
  exact Ev.isT rfl Ev.pure
theorem atom_c0_err (s : List UInt8) : ∃ t, Ev (fun K => ptype_parser_atom_c0 K s l i e) (t, l, i, e) := by
  refine ⟨.node 7 0 s [] [], Ev.step (fun k => by rw [ptype_parser_atom_c0]) ?_⟩
  exact Ev.bind (must_err l i e he _) (Ev.bind (cons_err l i e he) (Ev.bind (must_err l i e he _) (Ev.bind (a := .node 7 0 s [] []) ⟨0, fun _ _ => rfl⟩ Ev.pure)))
end
end Go.Proofs.YtnogkihchgnbcaaGreatDoor

/- Types out of tokens, part 2: rules one by one. -/
namespace Go.Proofs.YtnogkihchgnbcaaGreatDoor
open Go Go.Am Go.Sx
theorem nodeP (c : Int) (s : List UInt8) (ks : List Tr) : Ev (fun K => ptype_node K c s ks) (.node c 0 s [] ks) := ⟨0, fun _ _ => rfl⟩
theorem nodeR (c : Int) (s : List UInt8) (ks : List Tr) : Ev (fun K => ref06_Node K c s ks) (.node c 0 s [] ks) := ⟨0, fun _ _ => rfl⟩
theorem wr1 {i : Nat} (h : i ≤ 2000) : IntKind.i64.wrap ((i : Int) + 1) = ((i + 1 : Nat) : Int) := wrap_nat (by omega)
theorem wr2 {i : Nat} (h : i ≤ 2000) : IntKind.i64.wrap ((i : Int) + 2) = ((i + 2 : Nat) : Int) := by rw [wrap_id (by omega) (by omega)]; omega
theorem wr3 {i : Nat} (h : i ≤ 2000) : IntKind.i64.wrap ((i : Int) + 3) = ((i + 3 : Nat) : Int) := by rw [wrap_id (by omega) (by omega)]; omega
theorem key_f {l : List Token} {i : Int} {t : List UInt8} (h : keyS l i t = false) : Ev (fun K => ptype_parser_key K l i 0 t) (false, l, i, 0) := by
  refine Ev.congr (f := fun K => _) ?_ (fun k => by rw [ptype_parser_key])
  refine Ev.nF rfl ?_
  refine Ev.bind (ev_pKey l i t) ?_
  rw [h]
  exact Ev.isT rfl Ev.pure
theorem must_f {l : List Token} {i : Int} {t : List UInt8} (h : keyS l i t = false) : Ev (fun K => ptype_parser_must K l i 0 t) (l, i, 6) := by
  refine Ev.congr (f := fun K => _) ?_ (fun k => by rw [ptype_parser_must])
  refine Ev.bind (key_f h) ?_
  refine Ev.isT rfl ?_
  refine Ev.bind (a := (l, i, 6)) (Ev.congr (f := fun K => _) (Ev.dT rfl Ev.pure) (fun k => by rw [ptype_parser_fail])) Ev.pure
theorem name_f {l : List Token} {i : Int} {s : List UInt8} (h : nameS l i = (s, false)) : Ev (fun K => ptype_parser_name K l i 0) ([], l, i, 6) := by
  have hn := ev_pName l i
  rw [h] at hn
  refine Ev.congr (f := fun K => _) ?_ (fun k => by rw [ptype_parser_name])
  refine Ev.bind hn ?_
  refine Ev.nF rfl ?_
  refine Ev.isT rfl ?_
  exact Ev.bind (a := (l, i, 6)) (Ev.congr (f := fun K => _) (Ev.dT rfl Ev.pure) (fun k => by rw [ptype_parser_fail])) Ev.pure
section
variable {l : List Token} (hl : l.length ≤ 1000)
include hl
theorem key_t {i : Nat} {t : List UInt8} (h : keyS l i t = true) : Ev (fun K => ptype_parser_key K l (i : Int) 0 t) (true, l, ((i + 1 : Nat) : Int), 0) := by
  have := key_in h
  refine Ev.congr (f := fun K => _) ?_ (fun k => by rw [ptype_parser_key])
  refine Ev.nF rfl ?_
  refine Ev.bind (ev_pKey l i t) ?_
  rw [h]
  refine Ev.isF rfl ?_
  exact Ev.pure' (by rw [wr1 (by omega)])
theorem must_t {i : Nat} {t : List UInt8} (h : keyS l i t = true) : Ev (fun K => ptype_parser_must K l (i : Int) 0 t) (l, ((i + 1 : Nat) : Int), 0) := by
  refine Ev.congr (f := fun K => _) ?_ (fun k => by rw [ptype_parser_must])
  refine Ev.bind (key_t hl h) ?_
  exact Ev.isF rfl Ev.pure
theorem name_t {i : Nat} {s : List UInt8} (h : nameS l i = (s, true)) : Ev (fun K => ptype_parser_name K l (i : Int) 0) (s, l, ((i + 1 : Nat) : Int), 0) := by
  have := name_in (l := l) (i := i) (by rw [h])
  have hn := ev_pName l i
  rw [h] at hn
  refine Ev.congr (f := fun K => _) ?_ (fun k => by rw [ptype_parser_name])
  refine Ev.bind hn ?_
  refine Ev.nF rfl ?_
  refine Ev.isF rfl ?_
  exact Ev.pure' (by rw [wr1 (by omega)])

/-- two parsers of trees come to the same at a place -/
def PT (l : List Token) (f : Nat → List Token → Int → Int → Option (Tr × List Token × Int × Int)) (g : Nat → List Token → Int → Option (Tr × Int × Int)) (i : Nat) : Prop :=
  ∃ (t t' : Tr) (j : Nat) (er : Int), Ev (fun K => f K l (i : Int) 0) (t', l, (j : Int), er) ∧ Ev (fun K => g K l (i : Int)) (t, (j : Int), er) ∧ j ≤ l.length ∧ i ≤ j ∧ (er = 0 → t' = t ∧ i < j ∧ t.w + i ≤ j)
/-- the same of constructors -/
def PC (l : List Token) (i : Nat) : Prop :=
  ∃ (c c' : List Tr) (j : Nat) (er : Int), Ev (fun K => ptype_parser_cons K l (i : Int) 0) (c', l, (j : Int), er) ∧ Ev (fun K => ref06_cons K l (i : Int)) (c, (j : Int), er) ∧ j ≤ l.length ∧ i ≤ j ∧ (er = 0 → c' = c ∧ i < j ∧ wL c + i ≤ j) ∧ (er ≠ 0 → c = [])

theorem step_product {i : Nat} (hat : PT l ptype_parser_atom ref06_atom i) (hpr : ∀ j, i < j → j ≤ l.length → PT l ptype_parser_product ref06_product j) : PT l ptype_parser_product ref06_product i := by
  obtain ⟨t, t', j, er, h1, h2, h3, h4, h5⟩ := hat
  by_cases he : er = 0
  · subst he
    obtain ⟨e1, e2, e3⟩ := h5 rfl
    subst e1
    cases hk : keyS l j [42] with
    | false =>
      refine ⟨t', t', j, 0, ?_, ?_, h3, h4, fun _ => ⟨rfl, e2, e3⟩⟩
      · refine Ev.step (fun k => by rw [ptype_parser_product]) ?_
        refine Ev.bind h1 ?_
        refine Ev.bind (a := (t', l, (j : Int), 0)) ?_ Ev.pure
        refine Ev.step (fun k => by rw [ptype_parser_two]) ?_
        refine Ev.bind (key_f hk) ?_
        exact Ev.isT rfl Ev.pure
      · refine Ev.step (fun k => by rw [ref06_product]) ?_
        refine Ev.bind h2 ?_
        refine Ev.nF rfl ?_
        refine Ev.bind (ev_rKey l j _) ?_
        rw [hk]
        exact Ev.isT rfl Ev.pure
    | true =>
      have hin := key_in hk
      obtain ⟨u, u', j', er', g1, g2, g3, g4, g5⟩ := hpr (j + 1) (by omega) (by omega)
      refine ⟨.node 6 0 [] [] [t', u], .node 6 0 [] [] [t', u'], j', er', ?_, ?_, g3, by omega, fun h => ?_⟩
      · refine Ev.step (fun k => by rw [ptype_parser_product]) ?_
        refine Ev.bind h1 ?_
        refine Ev.bind (a := (.node 6 0 [] [] [t', u'], l, (j' : Int), er')) ?_ Ev.pure
        refine Ev.step (fun k => by rw [ptype_parser_two]) ?_
        refine Ev.bind (key_t hl hk) ?_
        refine Ev.isF rfl ?_
        exact Ev.bind g1 (Ev.bind (nodeP ..) Ev.pure)
      · refine Ev.step (fun k => by rw [ref06_product]) ?_
        refine Ev.bind h2 ?_
        refine Ev.nF rfl ?_
        refine Ev.bind (ev_rKey l j _) ?_
        rw [hk]
        refine Ev.isF rfl ?_
        rw [wr1 (by omega)]
        exact Ev.bind g2 (Ev.bind (nodeR ..) Ev.pure)
      · obtain ⟨q1, q2, q3⟩ := g5 h
        subst q1
        refine ⟨rfl, by omega, ?_⟩
        rw [w_node, wL_cons, wL_cons, wL_nil]; omega
  · refine ⟨t, t', j, er, ?_, ?_, h3, h4, fun h => absurd h he⟩
    · refine Ev.step (fun k => by rw [ptype_parser_product]) ?_
      refine Ev.bind h1 ?_
      exact Ev.bind (two_err l j er he _ _ _) Ev.pure
    · refine Ev.step (fun k => by rw [ref06_product]) ?_
      refine Ev.bind h2 ?_
      exact Ev.nT he Ev.pure
theorem step_typ {i : Nat} (hat : PT l ptype_parser_product ref06_product i) (hpr : ∀ j, i < j → j ≤ l.length → PT l ptype_parser_typ ref06_typ j) : PT l ptype_parser_typ ref06_typ i := by
  obtain ⟨t, t', j, er, h1, h2, h3, h4, h5⟩ := hat
  by_cases he : er = 0
  · subst he
    obtain ⟨e1, e2, e3⟩ := h5 rfl
    subst e1
    cases hk : keyS l j [45, 62] with
    | false =>
      refine ⟨t', t', j, 0, ?_, ?_, h3, h4, fun _ => ⟨rfl, e2, e3⟩⟩
      · refine Ev.step (fun k => by rw [ptype_parser_typ]) ?_
        refine Ev.bind h1 ?_
        refine Ev.bind (a := (t', l, (j : Int), 0)) ?_ Ev.pure
        refine Ev.step (fun k => by rw [ptype_parser_two_2]) ?_
        refine Ev.bind (key_f hk) ?_
        exact Ev.isT rfl Ev.pure
      · refine Ev.step (fun k => by rw [ref06_typ]) ?_
        refine Ev.bind h2 ?_
        refine Ev.nF rfl ?_
        refine Ev.bind (ev_rKey l j _) ?_
        rw [hk]
        exact Ev.isT rfl Ev.pure
    | true =>
      have hin := key_in hk
      obtain ⟨u, u', j', er', g1, g2, g3, g4, g5⟩ := hpr (j + 1) (by omega) (by omega)
      refine ⟨.node 5 0 [] [] [t', u], .node 5 0 [] [] [t', u'], j', er', ?_, ?_, g3, by omega, fun h => ?_⟩
      · refine Ev.step (fun k => by rw [ptype_parser_typ]) ?_
        refine Ev.bind h1 ?_
        refine Ev.bind (a := (.node 5 0 [] [] [t', u'], l, (j' : Int), er')) ?_ Ev.pure
        refine Ev.step (fun k => by rw [ptype_parser_two_2]) ?_
        refine Ev.bind (key_t hl hk) ?_
        refine Ev.isF rfl ?_
        exact Ev.bind g1 (Ev.bind (nodeP ..) Ev.pure)
      · refine Ev.step (fun k => by rw [ref06_typ]) ?_
        refine Ev.bind h2 ?_
        refine Ev.nF rfl ?_
        refine Ev.bind (ev_rKey l j _) ?_
        rw [hk]
        refine Ev.isF rfl ?_
        rw [wr1 (by omega)]
        exact Ev.bind g2 (Ev.bind (nodeR ..) Ev.pure)
      · obtain ⟨q1, q2, q3⟩ := g5 h
        subst q1
        refine ⟨rfl, by omega, ?_⟩
        rw [w_node, wL_cons, wL_cons, wL_nil]; omega
  · refine ⟨t, t', j, er, ?_, ?_, h3, h4, fun h => absurd h he⟩
    · refine Ev.step (fun k => by rw [ptype_parser_typ]) ?_
      refine Ev.bind h1 ?_
      exact Ev.bind (two2_err l j er he _ _ _) Ev.pure
    · refine Ev.step (fun k => by rw [ref06_typ]) ?_
      refine Ev.bind h2 ?_
      exact Ev.nT he Ev.pure
end
end Go.Proofs.YtnogkihchgnbcaaGreatDoor

/- Types out of tokens, part 3: atoms, constructors; all of it. -/
namespace Go.Proofs.YtnogkihchgnbcaaGreatDoor
open Go Go.Am Go.Sx
/-- constructors that are in the list already -/
theorem cons_dup {l : List Token} {i : Int} {out : List Tr} {s : List UInt8} (ho : out.length ≤ 1048576) (hn : ∀ x ∈ out, ∃ k n nm mk ks, x = .node k n nm mk ks) : ∀ (m k : Nat), out.length = k + m → s ∈ (out.drop k).map nameOf →
    Ev (fun K => ref06_cons_l1 K l i out s (k : Int)) ([], i, 9) := by
  intro m
  induction m with
  | zero => intro k hk h; rw [List.drop_of_length_le (by omega)] at h; cases h
  | succ m ih =>
    intro k hk h
    have hlt : k < out.length := by omega
    rw [drop_get hlt, List.map_cons, List.mem_cons] at h
    obtain ⟨k', n', nm', mk', ks', e⟩ := hn _ (List.getElem_mem hlt)
    have hg := getI_lt hlt
    rw [e] at hg h
    refine Ev.step (fun k => by rw [ref06_cons_l1]) ?_
    refine Ev.dT (by omega) ?_
    refine Ev.iteT ⟨by omega, by omega⟩ ?_
    refine Ev.opt hg ?_
    refine Ev.d (fun _ => Ev.pure) (fun hne => ?_)
    rw [wrap_nat (by omega)]
    refine ih (k + 1) (by omega) (h.resolve_left fun e' => hne ?_)
    simpa [nameOf] using e'.symm
theorem cons_new {l : List Token} {i : Int} {out : List Tr} {s : List UInt8} {v : List Tr × Int × Int} (ho : out.length ≤ 1048576) (hn : ∀ x ∈ out, ∃ k n nm mk ks, x = .node k n nm mk ks)
    (hend : Ev (fun K => ref06_cons_l1 K l i out s (out.length : Int)) v) : ∀ (m k : Nat), out.length = k + m → s ∉ (out.drop k).map nameOf → Ev (fun K => ref06_cons_l1 K l i out s (k : Int)) v := by
  intro m
  induction m with
  | zero => intro k hk _; have : k = out.length := by omega
            subst this; exact hend
  | succ m ih =>
    intro k hk h
    have hlt : k < out.length := by omega
    rw [drop_get hlt, List.map_cons, List.mem_cons] at h
    obtain ⟨k', n', nm', mk', ks', e⟩ := hn _ (List.getElem_mem hlt)
    have hg := getI_lt hlt
    rw [e] at hg h
    refine Ev.step (fun k => by rw [ref06_cons_l1]) ?_
    refine Ev.dT (by omega) ?_
    refine Ev.iteT ⟨by omega, by omega⟩ ?_
    refine Ev.opt hg ?_
    refine Ev.dF (fun e' => h (.inl (by simpa [nameOf] using e'.symm))) ?_
    rw [wrap_nat (by omega)]
    exact ih (k + 1) (by omega) fun h' => h (.inr h')

section
variable {l : List Token} (hl : l.length ≤ 1000) (hT : ∀ k ∈ l, k.2.1.length ≤ 1099511627776)
include hl hT
theorem step_atom {i : Nat} (hi : i ≤ l.length) (hty : ∀ j, i < j → j ≤ l.length → PT l ptype_parser_typ ref06_typ j) (hco : ∀ j, i < j → j ≤ l.length → PC l j) : PT l ptype_parser_atom ref06_atom i := by
  have hpL := ev_pLong l i
  have hrL := ev_rLong l i
  have hin := long_in (l := l) (i := i)
  generalize longS l i = L at *
  obtain ⟨s, b⟩ := L
  have one : ∀ c nm, (Tr.node c 0 nm [] []).w = 1 := fun c nm => by rw [w_node, wL_nil]
  cases b with
  | true =>
    have hin := hin rfl
    refine ⟨.node 4 0 s [] [], .node 4 0 s [] [], i + 1, 0, ?_, ?_, by omega, by omega, fun _ => ⟨rfl, by omega, by rw [one]; omega⟩⟩
    · refine Ev.step (fun k => by rw [ptype_parser_atom]) ?_
      refine Ev.nF rfl ?_
      refine Ev.bind hpL ?_
      refine Ev.isT rfl ?_
      exact Ev.bind (nodeP ..) (Ev.pure' (by rw [wr1 (by omega)]))
    · refine Ev.step (fun k => by rw [ref06_atom]) ?_
      refine Ev.bind hrL ?_
      refine Ev.isT rfl ?_
      exact Ev.bind (nodeR ..) (Ev.pure' (by rw [wr1 (by omega)]))
  | false =>
    cases k1 : keyS l i [105, 110, 116] with
    | true =>
      have hin := key_in k1
      refine ⟨.node 1 0 [] [] [], .node 1 0 [] [] [], i + 1, 0, ?_, ?_, by omega, by omega, fun _ => ⟨rfl, by omega, by rw [one]; omega⟩⟩
      · refine Ev.step (fun k => by rw [ptype_parser_atom]) ?_
        refine Ev.nF rfl ?_
        refine Ev.bind hpL ?_
        refine Ev.isF rfl ?_
        refine Ev.bind (key_t hl k1) ?_
        refine Ev.isT rfl ?_
        exact Ev.bind (nodeP ..) Ev.pure
      · refine Ev.step (fun k => by rw [ref06_atom]) ?_
        refine Ev.bind hrL ?_
        refine Ev.isF rfl ?_
        refine Ev.bind (ev_rKey l i _) ?_
        refine Ev.isT k1 ?_
        exact Ev.bind (nodeR ..) (Ev.pure' (by rw [wr1 (by omega)]))
    | false =>
    cases k2 : keyS l i [98, 111, 111, 108] with
    | true =>
      have hin := key_in k2
      refine ⟨.node 2 0 [] [] [], .node 2 0 [] [] [], i + 1, 0, ?_, ?_, by omega, by omega, fun _ => ⟨rfl, by omega, by rw [one]; omega⟩⟩
      · refine Ev.step (fun k => by rw [ptype_parser_atom]) ?_
        refine Ev.nF rfl ?_
        refine Ev.bind hpL ?_
        refine Ev.isF rfl ?_
        refine Ev.bind (key_f k1) ?_
        refine Ev.isF rfl ?_
        refine Ev.bind (key_t hl k2) ?_
        refine Ev.isT rfl ?_
        exact Ev.bind (nodeP ..) Ev.pure
      · refine Ev.step (fun k => by rw [ref06_atom]) ?_
        refine Ev.bind hrL ?_
        refine Ev.isF rfl ?_
        refine Ev.bind (ev_rKey l i _) ?_
        refine Ev.isF k1 ?_
        refine Ev.bind (ev_rKey l i _) ?_
        refine Ev.isT k2 ?_
        exact Ev.bind (nodeR ..) (Ev.pure' (by rw [wr1 (by omega)]))
    | false =>
    cases k3 : keyS l i [117, 110, 105, 116] with
    | true =>
      have hin := key_in k3
      refine ⟨.node 3 0 [] [] [], .node 3 0 [] [] [], i + 1, 0, ?_, ?_, by omega, by omega, fun _ => ⟨rfl, by omega, by rw [one]; omega⟩⟩
      · refine Ev.step (fun k => by rw [ptype_parser_atom]) ?_
        refine Ev.nF rfl ?_
        refine Ev.bind hpL ?_
        refine Ev.isF rfl ?_
        refine Ev.bind (key_f k1) ?_
        refine Ev.isF rfl ?_
        refine Ev.bind (key_f k2) ?_
        refine Ev.isF rfl ?_
        refine Ev.bind (key_t hl k3) ?_
        refine Ev.isT rfl ?_
        exact Ev.bind (nodeP ..) Ev.pure
      · refine Ev.step (fun k => by rw [ref06_atom]) ?_
        refine Ev.bind hrL ?_
        refine Ev.isF rfl ?_
        refine Ev.bind (ev_rKey l i _) ?_
        refine Ev.isF k1 ?_
        refine Ev.bind (ev_rKey l i _) ?_
        refine Ev.isF k2 ?_
        refine Ev.bind (ev_rKey l i _) ?_
        refine Ev.isT k3 ?_
        exact Ev.bind (nodeR ..) (Ev.pure' (by rw [wr1 (by omega)]))
    | false =>
    -- what both have come to so far
    have prog : ∀ {v : Tr × List Token × Int × Int}, Ev (fun K => (ptype_parser_key K l (i : Int) 0 [40]).bind fun (v19, v20, v21, v22) => (iteS v19 ((ptype_parser_typ K v20 v21 v22).bind fun (v23, v24, v25, v26) => ((ptype_parser_must K v24 v25 v26 ([41] : List UInt8)).bind fun (v27, v28, v29) => (some (v23, v27, v28, v29)))) ((ptype_parser_key K v20 v21 v22 ([109, 117] : List UInt8)).bind fun (v30, v31, v32, v33) => (iteS v30 ((ptype_parser_name K v31 v32 v33).bind fun (v34, v35, v36, v37) => (ptype_parser_atom_c0 K v34 v35 v36 v37)) ((ptype_parser_fail K v31 v32 v33 6).bind fun (v50, v51, v52) => (some (.nil, v50, v51, v52))))))) v → Ev (fun K => ptype_parser_atom K l (i : Int) 0) v := fun h => by
      refine Ev.step (fun k => by rw [ptype_parser_atom]) ?_
      refine Ev.nF rfl ?_
      refine Ev.bind hpL ?_
      refine Ev.isF rfl ?_
      refine Ev.bind (key_f k1) ?_
      refine Ev.isF rfl ?_
      refine Ev.bind (key_f k2) ?_
      refine Ev.isF rfl ?_
      refine Ev.bind (key_f k3) ?_
      refine Ev.isF rfl ?_
      exact h
    have doc : ∀ {v : Tr × Int × Int}, Ev (fun K => ref06_atom_c0 K l (i : Int)) v → Ev (fun K => ref06_atom K l (i : Int)) v := fun h => by
      refine Ev.step (fun k => by rw [ref06_atom]) ?_
      refine Ev.bind hrL ?_
      refine Ev.isF rfl ?_
      refine Ev.bind (ev_rKey l i _) ?_
      refine Ev.isF k1 ?_
      refine Ev.bind (ev_rKey l i _) ?_
      refine Ev.isF k2 ?_
      refine Ev.bind (ev_rKey l i _) ?_
      refine Ev.isF k3 ?_
      exact h
    cases k4 : keyS l i [40] with
    | true =>
      have hin := key_in k4
      obtain ⟨t, t', j, er, h1, h2, h3, h4, h5⟩ := hty (i + 1) (by omega) (by omega)
      by_cases he : er = 0
      · subst he
        obtain ⟨e1, e2, e3⟩ := h5 rfl
        subst e1
        cases k5 : keyS l j [41] with
        | true =>
          have hin5 := key_in k5
          refine ⟨t', t', j + 1, 0, prog ?_, doc ?_, by omega, by omega, fun _ => ⟨rfl, by omega, by omega⟩⟩
          · refine Ev.bind (key_t hl k4) ?_
            refine Ev.isT rfl ?_
            refine Ev.bind h1 ?_
            exact Ev.bind (must_t hl k5) Ev.pure
          · refine Ev.step (fun k => by rw [ref06_atom_c0]) ?_
            refine Ev.bind (ev_rKey l i _) ?_
            refine Ev.isT k4 ?_
            rw [wr1 (by omega)]
            refine Ev.bind h2 ?_
            refine Ev.nF rfl ?_
            refine Ev.bind (ev_rKey l j _) ?_
            refine Ev.isF (by rw [k5]; rfl) ?_
            exact Ev.pure' (by rw [wr1 (by omega)])
        | false =>
          refine ⟨.nil, t', j, 6, prog ?_, doc ?_, by omega, by omega, fun h => by cases h⟩
          · refine Ev.bind (key_t hl k4) ?_
            refine Ev.isT rfl ?_
            refine Ev.bind h1 ?_
            exact Ev.bind (must_f k5) Ev.pure
          · refine Ev.step (fun k => by rw [ref06_atom_c0]) ?_
            refine Ev.bind (ev_rKey l i _) ?_
            refine Ev.isT k4 ?_
            rw [wr1 (by omega)]
            refine Ev.bind h2 ?_
            refine Ev.nF rfl ?_
            refine Ev.bind (ev_rKey l j _) ?_
            exact Ev.isT (by rw [k5]; rfl) Ev.pure
      · refine ⟨.nil, t', j, er, prog ?_, doc ?_, by omega, by omega, fun h => absurd h he⟩
        · refine Ev.bind (key_t hl k4) ?_
          refine Ev.isT rfl ?_
          refine Ev.bind h1 ?_
          exact Ev.bind (must_err l j er he _) Ev.pure
        · refine Ev.step (fun k => by rw [ref06_atom_c0]) ?_
          refine Ev.bind (ev_rKey l i _) ?_
          refine Ev.isT k4 ?_
          rw [wr1 (by omega)]
          refine Ev.bind h2 ?_
          exact Ev.nT he Ev.pure
    | false =>
    cases k5 : keyS l i [109, 117] with
    | false =>
      refine ⟨.nil, .nil, i, 6, prog ?_, doc ?_, by omega, by omega, fun h => by cases h⟩
      · refine Ev.bind (key_f k4) ?_
        refine Ev.isF rfl ?_
        refine Ev.bind (key_f k5) ?_
        refine Ev.isF rfl ?_
        exact Ev.bind (a := (l, (i : Int), 6)) (Ev.congr (f := fun K => _) (Ev.dT rfl Ev.pure) (fun k => by rw [ptype_parser_fail])) Ev.pure
      · refine Ev.step (fun k => by rw [ref06_atom_c0]) ?_
        refine Ev.bind (ev_rKey l i _) ?_
        refine Ev.isF k4 ?_
        refine Ev.bind (ev_rKey l i _) ?_
        exact Ev.isT (by rw [k5]; rfl) Ev.pure
    | true =>
      have hin := key_in k5
      have hrN := ev_rName hT ((i + 1 : Nat) : Int)
      have prog2 : ∀ {v : Tr × List Token × Int × Int} {s : List UInt8} {a : Int} {e : Int}, Ev (fun K => ptype_parser_name K l ((i + 1 : Nat) : Int) 0) (s, l, a, e) → Ev (fun K => ptype_parser_atom_c0 K s l a e) v → Ev (fun K => ptype_parser_atom K l (i : Int) 0) v := fun hn hc => prog (by
        refine Ev.bind (key_f k4) ?_
        refine Ev.isF rfl ?_
        refine Ev.bind (key_t hl k5) ?_
        refine Ev.isT rfl ?_
        exact Ev.bind hn hc)
      have doc2 : ∀ {v : Tr × Int × Int}, Ev (fun K => ref06_atom_c1 K l (i : Int) (nameS l ((i + 1 : Nat) : Int)).1 (nameS l ((i + 1 : Nat) : Int)).2) v → Ev (fun K => ref06_atom K l (i : Int)) v := fun h => doc (by
        refine Ev.step (fun k => by rw [ref06_atom_c0]) ?_
        refine Ev.bind (ev_rKey l i _) ?_
        refine Ev.isF k4 ?_
        refine Ev.bind (ev_rKey l i _) ?_
        refine Ev.isF (by rw [k5]; rfl) ?_
        rw [wr1 (by omega)]
        refine Ev.bind hrN ?_
        exact h)
      have hni := name_in (l := l) (i := ((i + 1 : Nat) : Int))
      generalize hN : nameS l ((i + 1 : Nat) : Int) = N at *
      obtain ⟨s, b⟩ := N
      cases b with
      | false =>
        obtain ⟨t, ht⟩ := atom_c0_err l ((i + 1 : Nat) : Int) 6 (by decide) []
        refine ⟨.nil, t, i + 1, 6, prog2 (name_f hN) ht, doc2 ?_, by omega, by omega, fun h => by cases h⟩
        refine Ev.step (fun k => by rw [ref06_atom_c1]) ?_
        exact Ev.isT rfl (Ev.pure' (by rw [wr1 (by omega)]))
      | true =>
        have hni := hni rfl
        cases k6 : keyS l ((i + 2 : Nat) : Int) [123] with
        | false =>
          refine ⟨.nil, .node 7 0 s [] [], i + 2, 6, prog2 (name_t hl hN) ?_, doc2 ?_, by omega, by omega, fun h => by cases h⟩
          · refine Ev.step (fun k => by rw [ptype_parser_atom_c0]) ?_
            refine Ev.bind (must_f (l := l) (i := ((i + 2 : Nat) : Int)) k6) ?_
            refine Ev.bind (cons_err l _ 6 (by decide)) ?_
            refine Ev.bind (must_err l _ 6 (by decide) _) ?_
            exact Ev.bind (nodeP ..) Ev.pure
          · refine Ev.step (fun k => by rw [ref06_atom_c1]) ?_
            refine Ev.isF rfl ?_
            rw [wr2 (by omega)]
            refine Ev.bind (ev_rKey l _ _) ?_
            exact Ev.isT (by rw [k6]; rfl) Ev.pure
        | true =>
          have hin6 := key_in k6
          obtain ⟨c, c', j, er, h1, h2, h3, h4, h5, h6⟩ := hco (i + 3) (by omega) (by omega)
          by_cases he : er = 0
          · subst he
            obtain ⟨e1, e2, e3⟩ := h5 rfl
            subst e1
            cases k7 : keyS l j [125] with
            | true =>
              have hin7 := key_in k7
              refine ⟨.node 7 0 s [] c', .node 7 0 s [] c', j + 1, 0, prog2 (name_t hl hN) ?_, doc2 ?_, by omega, by omega, fun _ => ⟨rfl, by omega, by rw [w_node]; omega⟩⟩
              · refine Ev.step (fun k => by rw [ptype_parser_atom_c0]) ?_
                refine Ev.bind (must_t hl (i := i + 2) k6) ?_
                refine Ev.bind h1 ?_
                refine Ev.bind (must_t hl k7) ?_
                exact Ev.bind (nodeP ..) Ev.pure
              · refine Ev.step (fun k => by rw [ref06_atom_c1]) ?_
                refine Ev.isF rfl ?_
                rw [wr2 (by omega), wr3 (by omega)]
                refine Ev.bind (ev_rKey l _ _) ?_
                refine Ev.isF (by rw [k6]; rfl) ?_
                refine Ev.bind h2 ?_
                refine Ev.nF rfl ?_
                refine Ev.bind (ev_rKey l _ _) ?_
                refine Ev.isF (by rw [k7]; rfl) ?_
                exact Ev.bind (nodeR ..) (Ev.pure' (by rw [wr1 (by omega)]))
            | false =>
              refine ⟨.nil, .node 7 0 s [] c', j, 6, prog2 (name_t hl hN) ?_, doc2 ?_, by omega, by omega, fun h => by cases h⟩
              · refine Ev.step (fun k => by rw [ptype_parser_atom_c0]) ?_
                refine Ev.bind (must_t hl (i := i + 2) k6) ?_
                refine Ev.bind h1 ?_
                refine Ev.bind (must_f k7) ?_
                exact Ev.bind (nodeP ..) Ev.pure
              · refine Ev.step (fun k => by rw [ref06_atom_c1]) ?_
                refine Ev.isF rfl ?_
                rw [wr2 (by omega), wr3 (by omega)]
                refine Ev.bind (ev_rKey l _ _) ?_
                refine Ev.isF (by rw [k6]; rfl) ?_
                refine Ev.bind h2 ?_
                refine Ev.nF rfl ?_
                refine Ev.bind (ev_rKey l _ _) ?_
                exact Ev.isT (by rw [k7]; rfl) Ev.pure
          · refine ⟨.nil, .node 7 0 s [] c', j, er, prog2 (name_t hl hN) ?_, doc2 ?_, by omega, by omega, fun h => absurd h he⟩
            · refine Ev.step (fun k => by rw [ptype_parser_atom_c0]) ?_
              refine Ev.bind (must_t hl (i := i + 2) k6) ?_
              refine Ev.bind h1 ?_
              refine Ev.bind (must_err l j er he _) ?_
              exact Ev.bind (nodeP ..) Ev.pure
            · refine Ev.step (fun k => by rw [ref06_atom_c1]) ?_
              refine Ev.isF rfl ?_
              rw [wr2 (by omega), wr3 (by omega)]
              refine Ev.bind (ev_rKey l _ _) ?_
              refine Ev.isF (by rw [k6]; rfl) ?_
              refine Ev.bind h2 ?_
              exact Ev.nT he Ev.pure

theorem step_cons {i0 : Nat} (hi0 : i0 ≤ l.length) (hty : ∀ j, i0 < j → j ≤ l.length → PT l ptype_parser_typ ref06_typ j) : PC l i0 := by
  have loop : ∀ (m i : Nat) (out : List Tr) (sn : List (List UInt8 × Bool)), l.length - i ≤ m → i ≤ l.length → i0 ≤ i → out.length ≤ i → wL out + i0 ≤ i → (∀ x ∈ out, ∃ k n nm mk ks, x = .node k n nm mk ks) → (∀ s, (lookupM sn s).getD false = decide (s ∈ out.map nameOf)) →
      ∃ (c c' : List Tr) (j : Nat) (er : Int), Ev (fun K => ptype_parser_cons_l0 K out l (i : Int) 0 sn) (c', l, (j : Int), er) ∧ Ev (fun K => ref06_cons_l0 K l (i : Int) out) (c, (j : Int), er) ∧ j ≤ l.length ∧ i ≤ j ∧ (er = 0 → c' = c ∧ i < j ∧ wL c + i0 ≤ j) ∧ (er ≠ 0 → c = []) := by
    intro m
    induction m with
    | zero =>
      intro i out sn hm hi hii ho hw hnode hsn
      have e : i = l.length := by omega
      have hf : nameS l (i : Int) = ([], false) := by unfold nameS; rw [tok_none (by omega)]
      have hrN := ev_rName hT (i : Int)
      rw [hf] at hrN
      obtain ⟨out', hc0⟩ := cons_c0_err l (i : Int) 6 (by decide) (out := out) (by omega) [] sn
      refine ⟨[], out', i, 6, ?_, ?_, hi, by omega, fun h => (by cases h), fun _ => rfl⟩
      · refine Ev.step (fun k => by rw [ptype_parser_cons_l0]) ?_
        refine Ev.dT rfl ?_
        refine Ev.bind (name_f hf) ?_
        refine Ev.dF (by decide) ?_
        exact hc0
      · refine Ev.step (fun k => by rw [ref06_cons_l0]) ?_
        refine Ev.bind hrN ?_
        exact Ev.isT rfl Ev.pure
    | succ m ih =>
      intro i out sn hm hi hii ho hw hnode hsn
      have hrN := ev_rName hT (i : Int)
      have hni := name_in (l := l) (i := (i : Int))
      generalize hN : nameS l (i : Int) = N at *
      obtain ⟨s, b⟩ := N
      cases b with
      | false =>
        obtain ⟨out', hc0⟩ := cons_c0_err l (i : Int) 6 (by decide) (out := out) (by omega) [] sn
        refine ⟨[], out', i, 6, ?_, ?_, hi, by omega, fun h => (by cases h), fun _ => rfl⟩
        · refine Ev.step (fun k => by rw [ptype_parser_cons_l0]) ?_
          refine Ev.dT rfl ?_
          refine Ev.bind (name_f hN) ?_
          refine Ev.dF (by decide) ?_
          exact hc0
        · refine Ev.step (fun k => by rw [ref06_cons_l0]) ?_
          refine Ev.bind hrN ?_
          exact Ev.isT rfl Ev.pure
      | true =>
        have hni := hni rfl
        by_cases hdup : s ∈ out.map nameOf
        · obtain ⟨out', hc0⟩ := cons_c0_err l (i : Int) 9 (by decide) (out := out) (by omega) s sn
          refine ⟨[], out', i, 9, ?_, ?_, hi, by omega, fun h => (by cases h), fun _ => rfl⟩
          · refine Ev.step (fun k => by rw [ptype_parser_cons_l0]) ?_
            refine Ev.dT rfl ?_
            refine Ev.bind (name_t hl hN) ?_
            refine Ev.dT rfl ?_
            refine Ev.isT (by rw [hsn]; exact decide_eq_true hdup) ?_
            exact Ev.bind (a := (l, (i : Int), 9)) (Ev.congr (f := fun K => _) (Ev.dT rfl Ev.pure) (fun k => by rw [ptype_parser_fail])) hc0
          · refine Ev.step (fun k => by rw [ref06_cons_l0]) ?_
            refine Ev.bind hrN ?_
            refine Ev.isF rfl ?_
            exact cons_dup (by omega) hnode out.length 0 (by omega) (by simpa using hdup)
        · -- a new one
          have prog : ∀ {v : List Tr × List Token × Int × Int}, Ev (fun K => ptype_parser_cons_c0 K out s l ((i + 1 : Nat) : Int) 0 sn) v → Ev (fun K => ptype_parser_cons_l0 K out l (i : Int) 0 sn) v := fun h => by
            refine Ev.step (fun k => by rw [ptype_parser_cons_l0]) ?_
            refine Ev.dT rfl ?_
            refine Ev.bind (name_t hl hN) ?_
            refine Ev.dT rfl ?_
            refine Ev.isF (by rw [hsn]; exact decide_eq_false hdup) ?_
            exact h
          have doc : ∀ {v : List Tr × Int × Int}, Ev (fun K => ref06_cons_l1 K l (i : Int) out s (out.length : Int)) v → Ev (fun K => ref06_cons_l0 K l (i : Int) out) v := fun h => by
            refine Ev.step (fun k => by rw [ref06_cons_l0]) ?_
            refine Ev.bind hrN ?_
            refine Ev.isF rfl ?_
            exact cons_new (by omega) hnode h out.length 0 (by omega) (by simpa using hdup)
          cases k1 : keyS l ((i + 1 : Nat) : Int) [111, 102] with
          | false =>
            refine ⟨[], out ++ [.node 8 0 s [] [.nil]], i + 1, 6, prog ?_, doc ?_, by omega, by omega, fun h => (by cases h), fun _ => rfl⟩
            · refine Ev.step (fun k => by rw [ptype_parser_cons_c0]) ?_
              refine Ev.bind (must_f k1) ?_
              refine Ev.bind (typ_err l _ 6 (by decide)) ?_
              refine Ev.bind (nodeP ..) ?_
              refine Ev.opt (appL_ok (by simp; omega)) ?_
              refine Ev.bind (key_err l _ 6 (by decide) _) ?_
              exact Ev.isT rfl Ev.pure
            · refine Ev.step (fun k => by rw [ref06_cons_l1]) ?_
              refine Ev.dF (by omega) ?_
              rw [wr1 (by omega)]
              refine Ev.bind (ev_rKey l _ _) ?_
              exact Ev.isT (by rw [k1]; rfl) Ev.pure
          | true =>
            have hin1 := key_in k1
            obtain ⟨t, t', j, er, h1, h2, h3, h4, h5⟩ := hty (i + 2) (by omega) (by omega)
            by_cases he : er = 0
            · subst he
              obtain ⟨e1, e2, e3⟩ := h5 rfl
              subst e1
              have hw1 : (Tr.node 8 0 s [] [t']).w = 1 + t'.w := by rw [w_node, wL_cons, wL_nil]; omega
              have hwo : wL (out ++ [.node 8 0 s [] [t']]) + i0 ≤ j := by
                rw [wL_append, wL_cons, wL_nil, hw1]; omega
              cases k2 : keyS l j [124] with
              | false =>
                refine ⟨out ++ [.node 8 0 s [] [t']], out ++ [.node 8 0 s [] [t']], j, 0, prog ?_, doc ?_, by omega, by omega, fun _ => ⟨rfl, by omega, hwo⟩, fun h => absurd rfl h⟩
                · refine Ev.step (fun k => by rw [ptype_parser_cons_c0]) ?_
                  refine Ev.bind (must_t hl k1) ?_
                  refine Ev.bind h1 ?_
                  refine Ev.bind (nodeP ..) ?_
                  refine Ev.opt (appL_ok (by simp; omega)) ?_
                  refine Ev.bind (key_f k2) ?_
                  exact Ev.isT rfl Ev.pure
                · refine Ev.step (fun k => by rw [ref06_cons_l1]) ?_
                  refine Ev.dF (by omega) ?_
                  rw [wr1 (by omega), wr2 (by omega)]
                  refine Ev.bind (ev_rKey l _ _) ?_
                  refine Ev.isF (by rw [k1]; rfl) ?_
                  refine Ev.bind h2 ?_
                  refine Ev.nF rfl ?_
                  refine Ev.bind (nodeR ..) ?_
                  refine Ev.opt (appL_ok (by simp; omega)) ?_
                  refine Ev.bind (ev_rKey l _ _) ?_
                  exact Ev.isT (by rw [k2]; rfl) Ev.pure
              | true =>
                have hin2 := key_in k2
                obtain ⟨c, c', j', er', g1, g2, g3, g4, g5, g6⟩ := ih (j + 1) (out ++ [.node 8 0 s [] [t']]) (updM sn s true) (by omega) (by omega) (by omega) (by simp; omega) (by omega) (by
                  intro x hx
                  rcases List.mem_append.1 hx with hx | hx
                  · exact hnode x hx
                  · rw [List.mem_singleton.1 hx]; exact ⟨_, _, _, _, _, rfl⟩) (by
                  intro s'
                  rw [lookup_upd, hsn]
                  by_cases e : s' = s
                  · rw [if_pos e]; simp [nameOf, e]
                  · rw [if_neg e]; simp [nameOf, e])
                refine ⟨c, c', j', er', prog ?_, doc ?_, g3, by omega, fun h => ?_, g6⟩
                · refine Ev.step (fun k => by rw [ptype_parser_cons_c0]) ?_
                  refine Ev.bind (must_t hl k1) ?_
                  refine Ev.bind h1 ?_
                  refine Ev.bind (nodeP ..) ?_
                  refine Ev.opt (appL_ok (by simp; omega)) ?_
                  refine Ev.bind (key_t hl k2) ?_
                  refine Ev.isF rfl ?_
                  exact g1
                · refine Ev.step (fun k => by rw [ref06_cons_l1]) ?_
                  refine Ev.dF (by omega) ?_
                  rw [wr1 (by omega), wr2 (by omega)]
                  refine Ev.bind (ev_rKey l _ _) ?_
                  refine Ev.isF (by rw [k1]; rfl) ?_
                  refine Ev.bind h2 ?_
                  refine Ev.nF rfl ?_
                  refine Ev.bind (nodeR ..) ?_
                  refine Ev.opt (appL_ok (by simp; omega)) ?_
                  refine Ev.bind (ev_rKey l _ _) ?_
                  refine Ev.isF (by rw [k2]; rfl) ?_
                  rw [wr1 (by omega)]
                  exact g2
                · obtain ⟨q1, q2, q3⟩ := g5 h
                  exact ⟨q1, by omega, q3⟩
            · refine ⟨[], out ++ [.node 8 0 s [] [t']], j, er, prog ?_, doc ?_, by omega, by omega, fun h => absurd h he, fun _ => rfl⟩
              · refine Ev.step (fun k => by rw [ptype_parser_cons_c0]) ?_
                refine Ev.bind (must_t hl k1) ?_
                refine Ev.bind h1 ?_
                refine Ev.bind (nodeP ..) ?_
                refine Ev.opt (appL_ok (by simp; omega)) ?_
                refine Ev.bind (key_err l j er he _) ?_
                exact Ev.isT rfl Ev.pure
              · refine Ev.step (fun k => by rw [ref06_cons_l1]) ?_
                refine Ev.dF (by omega) ?_
                rw [wr1 (by omega), wr2 (by omega)]
                refine Ev.bind (ev_rKey l _ _) ?_
                refine Ev.isF (by rw [k1]; rfl) ?_
                refine Ev.bind h2 ?_
                exact Ev.nT he Ev.pure
  obtain ⟨c, c', j, er, h1, h2, h3, h4, h5, h6⟩ := loop (l.length - i0) i0 [] [] (by omega) hi0 (by omega) (by simp) (by rw [wL_nil]; omega) (fun x hx => by cases hx) (fun s => by simp [lookupM])
  refine ⟨c, c', j, er, ?_, ?_, h3, h4, fun h => ?_, h6⟩
  · exact Ev.step (fun k => by rw [ptype_parser_cons]) h1
  · exact Ev.step (fun k => by rw [ref06_cons]) h2
  · exact h5 h

/-- types and constructors: both parsers come to the same at each place -/
theorem parse_all : ∀ (m i : Nat), l.length - i ≤ m → i ≤ l.length → PT l ptype_parser_typ ref06_typ i ∧ PT l ptype_parser_product ref06_product i ∧ PC l i := by
  intro m
  induction m with
  | zero =>
    intro i hm hi
    have hty : ∀ j, i < j → j ≤ l.length → PT l ptype_parser_typ ref06_typ j := fun j h1 h2 => by omega
    have hpr : ∀ j, i < j → j ≤ l.length → PT l ptype_parser_product ref06_product j := fun j h1 h2 => by omega
    have hco : ∀ j, i < j → j ≤ l.length → PC l j := fun j h1 h2 => by omega
    have p := step_product hl (step_atom hl hT hi hty hco) hpr
    exact ⟨step_typ hl p hty, p, step_cons hl hT hi hty⟩
  | succ m ih =>
    intro i hm hi
    have hty : ∀ j, i < j → j ≤ l.length → PT l ptype_parser_typ ref06_typ j := fun j h1 h2 => (ih j (by omega) h2).1
    have hpr : ∀ j, i < j → j ≤ l.length → PT l ptype_parser_product ref06_product j := fun j h1 h2 => (ih j (by omega) h2).2.1
    have hco : ∀ j, i < j → j ≤ l.length → PC l j := fun j h1 h2 => (ih j (by omega) h2).2.2
    have p := step_product hl (step_atom hl hT hi hty hco) hpr
    exact ⟨step_typ hl p hty, p, step_cons hl hT hi hty⟩
end
end Go.Proofs.YtnogkihchgnbcaaGreatDoor

/- Types out of tokens, part 4: at any place; few tokens; trees alike. -/
namespace Go.Proofs.YtnogkihchgnbcaaGreatDoor
open Go Go.Am Go.Sx
def cutT (c : Token) : Token := (c.1, c.2.1.take 140, c.2.2.1, c.2.2.2)
def fewT (p : List Token) : List Token := (p.take 80).map cutT
theorem fewT_len (p : List Token) : (fewT p).length ≤ 80 := by simp [fewT]; omega
theorem fewT_text (p : List Token) : ∀ k ∈ fewT p, k.2.1.length ≤ 1099511627776 := by
  intro k h
  simp only [fewT, List.mem_map] at h
  obtain ⟨x, _, rfl⟩ := h
  simp [cutT]; omega
theorem ev_Few_loop {p : List Token} : ∀ (m i : Nat) (acc : List Token), i + m = min p.length 80 → acc.length = i → Ev (fun K => law06_Few_l0 K p acc (i : Int)) (acc ++ ((p.take 80).drop i).map cutT) := by
  intro m
  induction m with
  | zero =>
    intro i acc hi ha
    refine Ev.step (fun k => by rw [law06_Few_l0]) ?_
    have hd : (p.take 80).drop i = [] := List.drop_of_length_le (by simp; omega)
    rw [hd]
    refine Ev.d (fun h => ?_) (fun _ => Ev.pure' (by simp))
    exact Ev.dF (by omega) (Ev.pure' (by simp))
  | succ m ihm =>
    intro i acc hi ha
    have hlt : i < p.length := by omega
    have hlt' : i < (p.take 80).length := by simp; omega
    refine Ev.step (fun k => by rw [law06_Few_l0]) ?_
    refine Ev.dT (by omega) (Ev.dT (by omega) (Ev.opt (getI_lt hlt) ?_))
    refine Ev.opt (sub_min (m := 140)) ?_
    refine Ev.opt (appL_ok (by simp; omega)) ?_
    rw [wrap_nat (by omega), drop_get hlt', List.map_cons]
    have := ihm (i + 1) (acc ++ [cutT p[i]]) (by omega) (by simp [ha])
    rw [List.append_assoc] at this
    simpa [cutT] using this
theorem ev_Few (p : List Token) : Ev (fun K => law06_Few K p) (fewT p) := by
  have := ev_Few_loop (p := p) (min p.length 80) 0 [] (by omega) rfl
  simpa [law06_Few, fewT] using this

theorem ev_same_loop {a b : Int} {nm mk : List UInt8} {ks : List Tr} (hl : ks.length ≤ 1099511627776) (ih : ∀ x ∈ ks, Ev (fun K => ref04_Same K x x) true) : ∀ (m i : Nat), ks.length = i + m →
    Ev (fun K => ref04_Same_l0 K (.node a b nm mk ks) (.node a b nm mk ks) (i : Int)) true := by
  intro m
  induction m with
  | zero =>
    intro i hi
    exact Ev.step (fun k => by rw [ref04_Same_l0]) (Ev.dF (by omega) Ev.pure)
  | succ m ihm =>
    intro i hi
    have hlt : i < ks.length := by omega
    refine Ev.step (fun k => by rw [ref04_Same_l0]) ?_
    refine Ev.dT (by omega) ?_
    refine Ev.opt (getI_lt hlt) ?_
    refine Ev.opt (getI_lt hlt) ?_
    refine Ev.bind (ih _ (List.getElem_mem hlt)) ?_
    refine Ev.isF rfl ?_
    rw [wrap_nat (by omega)]
    exact ihm (i + 1) (by omega)
theorem ev_same : ∀ t : Tr, t.w ≤ 1048576 → Ev (fun K => ref04_Same K t t) true := Tr.ind
  (fun _ => Ev.step (fun k => by rw [ref04_Same]) Ev.pure)
  fun k n nm mk ks ih h => by
    rw [w_node] at h
    have hl := wL_len ks
    refine Ev.step (fun k => by rw [ref04_Same]) ?_
    refine Ev.nF rfl ?_
    refine Ev.nF rfl ?_
    refine Ev.nF rfl ?_
    refine Ev.nF rfl ?_
    refine Ev.nF rfl ?_
    refine Ev.step (fun k => by rw [ref04_Same_c0]) ?_
    exact ev_same_loop (by omega) (fun x hx => ih x hx (by have := wL_mem hx; omega)) ks.length 0 (by omega)
section
variable {l : List Token} (hl : l.length ≤ 1000)
include hl
theorem begin_ok {i : Int} (h : 0 ≤ i ∧ i ≤ (l.length : Int)) : Ev (fun K => ptype_begin K l i) (l, i, 0) := by
  have := hl
  refine Ev.congr (f := fun K => _) ?_ (fun k => by rw [ptype_begin])
  exact Ev.dF (by omega) (Ev.dF (by omega) Ev.pure)
theorem begin_no {i : Int} (h : ¬ (0 ≤ i ∧ i ≤ (l.length : Int))) : Ev (fun K => ptype_begin K l i) (l, 0, 2) := by
  have := hl
  refine Ev.congr (f := fun K => _) ?_ (fun k => by rw [ptype_begin])
  exact Ev.d (fun _ => Ev.pure) (fun h1 => Ev.dT (by omega) Ev.pure)
variable (hT : ∀ k ∈ l, k.2.1.length ≤ 1099511627776)
include hT
/-- a type at any place, by both -/
theorem type_at (i : Int) : ∃ (t : Tr) (j er : Int), Ev (fun K => ptype_Type K l i) (t, j, er) ∧ Ev (fun K => ref06_Type K l i) (t, j, er) ∧ t.w ≤ 1048576 := by
  have one : (Tr.nil).w ≤ 1048576 := by decide
  by_cases h : 0 ≤ i ∧ i ≤ (l.length : Int)
  · obtain ⟨n, rfl⟩ : ∃ n : Nat, i = n := ⟨i.toNat, by omega⟩
    obtain ⟨t, t', j, er, h1, h2, h3, h4, h5⟩ := (parse_all hl hT l.length n (by omega) (by omega)).1
    by_cases he : er = 0
    · subst he
      obtain ⟨e1, e2, e3⟩ := h5 rfl
      subst e1
      refine ⟨t', j, 0, ?_, ?_, by omega⟩
      · refine Ev.congr (f := fun K => _) ?_ (fun k => by rw [ptype_Type])
        refine Ev.bind (begin_ok hl h) ?_
        refine Ev.bind h1 ?_
        exact Ev.nF rfl Ev.pure
      · refine Ev.congr (f := fun K => _) ?_ (fun k => by rw [ref06_Type])
        refine Ev.dF (by omega) ?_
        refine Ev.dF (by omega) ?_
        refine Ev.bind h2 ?_
        exact Ev.nF rfl Ev.pure
    · refine ⟨.nil, j, er, ?_, ?_, one⟩
      · refine Ev.congr (f := fun K => _) ?_ (fun k => by rw [ptype_Type])
        refine Ev.bind (begin_ok hl h) ?_
        refine Ev.bind h1 ?_
        exact Ev.nT he Ev.pure
      · refine Ev.congr (f := fun K => _) ?_ (fun k => by rw [ref06_Type])
        refine Ev.dF (by omega) ?_
        refine Ev.dF (by omega) ?_
        refine Ev.bind h2 ?_
        exact Ev.nT he Ev.pure
  · refine ⟨.nil, 0, 2, ?_, ?_, one⟩
    · refine Ev.congr (f := fun K => _) ?_ (fun k => by rw [ptype_Type])
      refine Ev.bind (begin_no hl h) ?_
      refine Ev.bind (typ_err l 0 2 (by decide)) ?_
      exact Ev.nT (by decide) Ev.pure
    · refine Ev.congr (f := fun K => _) ?_ (fun k => by rw [ref06_Type])
      exact Ev.d (fun _ => Ev.pure) (fun h1 => Ev.dT (by omega) Ev.pure)
end
end Go.Proofs.YtnogkihchgnbcaaGreatDoor

/- Constructors at any place, by both parsers. -/
namespace Go.Proofs.YtnogkihchgnbcaaGreatDoor
open Go Go.Am Go.Sx
section
variable {l : List Token} (hl : l.length ≤ 1000)
include hl
variable (hT : ∀ k ∈ l, k.2.1.length ≤ 1099511627776)
include hT
theorem cons_at (i : Int) : ∃ (c : List Tr) (j er : Int), Ev (fun K => ptype_Cons K l i) (c, j, er) ∧ Ev (fun K => ref06_Cons K l i) (c, j, er) ∧ wL c ≤ 1048576 := by
  by_cases h : 0 ≤ i ∧ i ≤ (l.length : Int)
  · obtain ⟨n, rfl⟩ : ∃ n : Nat, i = n := ⟨i.toNat, by omega⟩
    obtain ⟨c, c', j, er, h1, h2, h3, h4, h5, h6⟩ := (parse_all hl hT l.length n (by omega) (by omega)).2.2
    by_cases he : er = 0
    · subst he
      obtain ⟨e1, e2, e3⟩ := h5 rfl
      subst e1
      refine ⟨c', j, 0, ?_, ?_, by omega⟩
      · refine Ev.congr (f := fun K => _) ?_ (fun k => by rw [ptype_Cons])
        refine Ev.bind (begin_ok hl h) ?_
        refine Ev.bind h1 ?_
        exact Ev.nF rfl Ev.pure
      · refine Ev.congr (f := fun K => _) ?_ (fun k => by rw [ref06_Cons])
        refine Ev.dF (by omega) ?_
        refine Ev.dF (by omega) ?_
        exact Ev.bind h2 Ev.pure
    · have e := h6 he
      subst e
      refine ⟨[], j, er, ?_, ?_, by rw [wL_nil]; omega⟩
      · refine Ev.congr (f := fun K => _) ?_ (fun k => by rw [ptype_Cons])
        refine Ev.bind (begin_ok hl h) ?_
        refine Ev.bind h1 ?_
        exact Ev.nT he Ev.pure
      · refine Ev.congr (f := fun K => _) ?_ (fun k => by rw [ref06_Cons])
        refine Ev.dF (by omega) ?_
        refine Ev.dF (by omega) ?_
        exact Ev.bind h2 Ev.pure
  · refine ⟨[], 0, 2, ?_, ?_, by rw [wL_nil]; omega⟩
    · refine Ev.congr (f := fun K => _) ?_ (fun k => by rw [ptype_Cons])
      refine Ev.bind (begin_no hl h) ?_
      refine Ev.bind (cons_err l 0 2 (by decide)) ?_
      exact Ev.nT (by decide) Ev.pure
    · refine Ev.congr (f := fun K => _) ?_ (fun k => by rw [ref06_Cons])
      exact Ev.d (fun _ => Ev.pure) (fun h1 => Ev.dT (by omega) Ev.pure)
end
end Go.Proofs.YtnogkihchgnbcaaGreatDoor

/- The parser of types as a plain function of the tokens. -/
namespace Go.Proofs.YtnogkihchgnbcaaGreatDoor
open Go Go.Am Go.Sx
mutual
def typS (l : List Token) : Nat → Nat → Tr × Nat × Int
  | 0, i => (.nil, i, 6)
  | n + 1, i => match prodS l n i with
    | (a, j, e) => if e = 0 then (if keyS l j [45, 62] = true then (match typS l n (j + 1) with | (b, j2, e2) => (if e2 = 0 then .node 5 0 [] [] [a, b] else .nil, j2, e2)) else (a, j, 0)) else (.nil, j, e)
def prodS (l : List Token) : Nat → Nat → Tr × Nat × Int
  | 0, i => (.nil, i, 6)
  | n + 1, i => match atomS l n i with
    | (a, j, e) => if e = 0 then (if keyS l j [42] = true then (match prodS l n (j + 1) with | (b, j2, e2) => (if e2 = 0 then .node 6 0 [] [] [a, b] else .nil, j2, e2)) else (a, j, 0)) else (.nil, j, e)
def atomS (l : List Token) : Nat → Nat → Tr × Nat × Int
  | 0, i => (.nil, i, 6)
  | n + 1, i =>
    if (longS l i).2 = true then (.node 4 0 (longS l i).1 [] [], i + 1, 0)
    else if keyS l i [105, 110, 116] = true then (.node 1 0 [] [] [], i + 1, 0)
    else if keyS l i [98, 111, 111, 108] = true then (.node 2 0 [] [] [], i + 1, 0)
    else if keyS l i [117, 110, 105, 116] = true then (.node 3 0 [] [] [], i + 1, 0)
    else if keyS l i [40] = true then (match typS l n (i + 1) with | (t, j, e) => if e = 0 then (if keyS l j [41] = true then (t, j + 1, 0) else (.nil, j, 6)) else (.nil, j, e))
    else if keyS l i [109, 117] = true then
      (if (nameS l ((i + 1 : Nat) : Int)).2 = true then
        (if keyS l ((i + 2 : Nat) : Int) [123] = true then (match consS l n (i + 3) [] with
          | (c, j, e) => if e = 0 then (if keyS l j [125] = true then (.node 7 0 (nameS l ((i + 1 : Nat) : Int)).1 [] c, j + 1, 0) else (.nil, j, 6)) else (.nil, j, e))
        else (.nil, i + 2, 6))
      else (.nil, i + 1, 6))
    else (.nil, i, 6)
def consS (l : List Token) : Nat → Nat → List Tr → List Tr × Nat × Int
  | 0, i, _ => ([], i, 6)
  | n + 1, i, out =>
    if (nameS l i).2 = true then
      (if (nameS l i).1 ∈ out.map nameOf then ([], i, 9)
      else if keyS l ((i + 1 : Nat) : Int) [111, 102] = true then (match typS l n (i + 2) with
        | (t, j, e) => if e = 0 then (if keyS l j [124] = true then consS l n (j + 1) (out ++ [.node 8 0 (nameS l i).1 [] [t]]) else (out ++ [.node 8 0 (nameS l i).1 [] [t]], j, 0)) else ([], j, e))
      else ([], i + 1, 6))
    else ([], i, 6)
end
/-- the program's parser at a place comes to what the plain function tells -/
def PS (l : List Token) (f : Nat → List Token → Int → Int → Option (Tr × List Token × Int × Int)) (i : Nat) (g : Tr × Nat × Int) : Prop :=
  ∃ t', Ev (fun K => f K l (i : Int) 0) (t', l, ((g.2.1 : Nat) : Int), g.2.2) ∧ (g.2.2 = 0 → t' = g.1 ∧ i < g.2.1 ∧ g.1.w + i ≤ g.2.1) ∧ i ≤ g.2.1 ∧ g.2.1 ≤ l.length
def PSC (l : List Token) (i : Nat) (out : List Tr) (g : List Tr × Nat × Int) : Prop :=
  ∀ sn : List (List UInt8 × Bool), (∀ s, (lookupM sn s).getD false = decide (s ∈ out.map nameOf)) → out.length ≤ i →
    ∃ c', Ev (fun K => ptype_parser_cons_l0 K out l (i : Int) 0 sn) (c', l, ((g.2.1 : Nat) : Int), g.2.2) ∧ (g.2.2 = 0 → c' = g.1 ∧ i < g.2.1 ∧ wL g.1 + i ≤ wL out + g.2.1) ∧ i ≤ g.2.1 ∧ g.2.1 ≤ l.length
section
variable {l : List Token} (hl : l.length ≤ 1000)
include hl
theorem ps_prod {n i : Nat} (hat : PS l ptype_parser_atom i (atomS l n i)) (hpr : ∀ j, i < j → j ≤ l.length → PS l ptype_parser_product j (prodS l n j)) : PS l ptype_parser_product i (prodS l (n + 1) i) := by
  rw [prodS]
  generalize atomS l n i = g at *
  obtain ⟨t, j, er⟩ := g
  obtain ⟨t', h1, h5, h4, h3⟩ := hat
  simp only at h1 h5 h4 h3 ⊢
  by_cases he : er = 0
  · subst he
    obtain ⟨e1, e2, e3⟩ := h5 rfl
    subst e1
    rw [if_pos rfl]
    cases hk : keyS l j [42] with
    | false =>
      rw [if_neg (by simp)]
      refine ⟨t', ?_, fun _ => ⟨rfl, e2, e3⟩, h4, h3⟩
      refine Ev.step (fun k => by rw [ptype_parser_product]) ?_
      refine Ev.bind h1 ?_
      refine Ev.bind (a := (t', l, (j : Int), 0)) ?_ Ev.pure
      refine Ev.step (fun k => by rw [ptype_parser_two]) ?_
      refine Ev.bind (key_f hk) ?_
      exact Ev.isT rfl Ev.pure
    | true =>
      rw [if_pos rfl]
      have hin := key_in hk
      have hp := hpr (j + 1) (by omega) (by omega)
      generalize prodS l n (j + 1) = g2 at *
      obtain ⟨u, j', er'⟩ := g2
      obtain ⟨u', g1, g5, g4, g3⟩ := hp
      simp only at g1 g5 g4 g3 ⊢
      refine ⟨.node 6 0 [] [] [t', u'], ?_, fun h => ?_, by simp only; omega, g3⟩
      · refine Ev.step (fun k => by rw [ptype_parser_product]) ?_
        refine Ev.bind h1 ?_
        refine Ev.bind (a := (.node 6 0 [] [] [t', u'], l, (j' : Int), er')) ?_ Ev.pure
        refine Ev.step (fun k => by rw [ptype_parser_two]) ?_
        refine Ev.bind (key_t hl hk) ?_
        refine Ev.isF rfl ?_
        exact Ev.bind g1 (Ev.bind (nodeP ..) Ev.pure)
      · simp only at h ⊢
        obtain ⟨q1, q2, q3⟩ := g5 h
        subst q1
        rw [if_pos h]
        refine ⟨rfl, by omega, ?_⟩
        rw [w_node, wL_cons, wL_cons, wL_nil]; omega
  · rw [if_neg he]
    refine ⟨t', ?_, fun h => absurd h he, h4, h3⟩
    refine Ev.step (fun k => by rw [ptype_parser_product]) ?_
    refine Ev.bind h1 ?_
    exact Ev.bind (two_err l j er he _ _ _) Ev.pure
theorem ps_typ {n i : Nat} (hat : PS l ptype_parser_product i (prodS l n i)) (hpr : ∀ j, i < j → j ≤ l.length → PS l ptype_parser_typ j (typS l n j)) : PS l ptype_parser_typ i (typS l (n + 1) i) := by
  rw [typS]
  generalize prodS l n i = g at *
  obtain ⟨t, j, er⟩ := g
  obtain ⟨t', h1, h5, h4, h3⟩ := hat
  simp only at h1 h5 h4 h3 ⊢
  by_cases he : er = 0
  · subst he
    obtain ⟨e1, e2, e3⟩ := h5 rfl
    subst e1
    rw [if_pos rfl]
    cases hk : keyS l j [45, 62] with
    | false =>
      rw [if_neg (by simp)]
      refine ⟨t', ?_, fun _ => ⟨rfl, e2, e3⟩, h4, h3⟩
      refine Ev.step (fun k => by rw [ptype_parser_typ]) ?_
      refine Ev.bind h1 ?_
      refine Ev.bind (a := (t', l, (j : Int), 0)) ?_ Ev.pure
      refine Ev.step (fun k => by rw [ptype_parser_two_2]) ?_
      refine Ev.bind (key_f hk) ?_
      exact Ev.isT rfl Ev.pure
    | true =>
      rw [if_pos rfl]
      have hin := key_in hk
      have hp := hpr (j + 1) (by omega) (by omega)
      generalize typS l n (j + 1) = g2 at *
      obtain ⟨u, j', er'⟩ := g2
      obtain ⟨u', g1, g5, g4, g3⟩ := hp
      simp only at g1 g5 g4 g3 ⊢
      refine ⟨.node 5 0 [] [] [t', u'], ?_, fun h => ?_, by simp only; omega, g3⟩
      · refine Ev.step (fun k => by rw [ptype_parser_typ]) ?_
        refine Ev.bind h1 ?_
        refine Ev.bind (a := (.node 5 0 [] [] [t', u'], l, (j' : Int), er')) ?_ Ev.pure
        refine Ev.step (fun k => by rw [ptype_parser_two_2]) ?_
        refine Ev.bind (key_t hl hk) ?_
        refine Ev.isF rfl ?_
        exact Ev.bind g1 (Ev.bind (nodeP ..) Ev.pure)
      · simp only at h ⊢
        obtain ⟨q1, q2, q3⟩ := g5 h
        subst q1
        rw [if_pos h]
        refine ⟨rfl, by omega, ?_⟩
        rw [w_node, wL_cons, wL_cons, wL_nil]; omega
  · rw [if_neg he]
    refine ⟨t', ?_, fun h => absurd h he, h4, h3⟩
    refine Ev.step (fun k => by rw [ptype_parser_typ]) ?_
    refine Ev.bind h1 ?_
    exact Ev.bind (two2_err l j er he _ _ _) Ev.pure
theorem ps_atom {n i : Nat} (hi : i ≤ l.length) (hty : ∀ j, i < j → j ≤ l.length → PS l ptype_parser_typ j (typS l n j)) (hco : ∀ j, i < j → j ≤ l.length → PSC l j [] (consS l n j [])) : PS l ptype_parser_atom i (atomS l (n + 1) i) := by
  rw [atomS]
  have hpL := ev_pLong l i
  have hin := long_in (l := l) (i := i)
  generalize longS l i = L at *
  obtain ⟨s, b⟩ := L
  simp only at hin ⊢
  have one : ∀ c nm, (Tr.node c 0 nm [] []).w = 1 := fun c nm => by rw [w_node, wL_nil]
  cases b with
  | true =>
    have hin := hin rfl
    rw [if_pos rfl]
    refine ⟨.node 4 0 s [] [], ?_, fun _ => ⟨rfl, by simp only; omega, by simp only [one]; omega⟩, by simp only; omega, by simp only; omega⟩
    refine Ev.step (fun k => by rw [ptype_parser_atom]) ?_
    refine Ev.nF rfl ?_
    refine Ev.bind hpL ?_
    refine Ev.isT rfl ?_
    exact Ev.bind (nodeP ..) (Ev.pure' (by rw [wr1 (by omega)]))
  | false =>
    rw [if_neg (by simp)]
    cases k1 : keyS l i [105, 110, 116] with
    | true =>
      have hin := key_in k1
      rw [if_pos rfl]
      refine ⟨.node 1 0 [] [] [], ?_, fun _ => ⟨rfl, by simp only; omega, by simp only [one]; omega⟩, by simp only; omega, by simp only; omega⟩
      refine Ev.step (fun k => by rw [ptype_parser_atom]) ?_
      refine Ev.nF rfl ?_
      refine Ev.bind hpL ?_
      refine Ev.isF rfl ?_
      refine Ev.bind (key_t hl k1) ?_
      refine Ev.isT rfl ?_
      exact Ev.bind (nodeP ..) Ev.pure
    | false =>
    rw [if_neg (by simp)]
    cases k2 : keyS l i [98, 111, 111, 108] with
    | true =>
      have hin := key_in k2
      rw [if_pos rfl]
      refine ⟨.node 2 0 [] [] [], ?_, fun _ => ⟨rfl, by simp only; omega, by simp only [one]; omega⟩, by simp only; omega, by simp only; omega⟩
      refine Ev.step (fun k => by rw [ptype_parser_atom]) ?_
      refine Ev.nF rfl ?_
      refine Ev.bind hpL ?_
      refine Ev.isF rfl ?_
      refine Ev.bind (key_f k1) ?_
      refine Ev.isF rfl ?_
      refine Ev.bind (key_t hl k2) ?_
      refine Ev.isT rfl ?_
      exact Ev.bind (nodeP ..) Ev.pure
    | false =>
    rw [if_neg (by simp)]
    cases k3 : keyS l i [117, 110, 105, 116] with
    | true =>
      have hin := key_in k3
      rw [if_pos rfl]
      refine ⟨.node 3 0 [] [] [], ?_, fun _ => ⟨rfl, by simp only; omega, by simp only [one]; omega⟩, by simp only; omega, by simp only; omega⟩
      refine Ev.step (fun k => by rw [ptype_parser_atom]) ?_
      refine Ev.nF rfl ?_
      refine Ev.bind hpL ?_
      refine Ev.isF rfl ?_
      refine Ev.bind (key_f k1) ?_
      refine Ev.isF rfl ?_
      refine Ev.bind (key_f k2) ?_
      refine Ev.isF rfl ?_
      refine Ev.bind (key_t hl k3) ?_
      refine Ev.isT rfl ?_
      exact Ev.bind (nodeP ..) Ev.pure
    | false =>
    rw [if_neg (by simp)]
    have prog : ∀ {v : Tr × List Token × Int × Int}, Ev (fun K => (ptype_parser_key K l (i : Int) 0 [40]).bind fun (v19, v20, v21, v22) => (iteS v19 ((ptype_parser_typ K v20 v21 v22).bind fun (v23, v24, v25, v26) => ((ptype_parser_must K v24 v25 v26 ([41] : List UInt8)).bind fun (v27, v28, v29) => (some (v23, v27, v28, v29)))) ((ptype_parser_key K v20 v21 v22 ([109, 117] : List UInt8)).bind fun (v30, v31, v32, v33) => (iteS v30 ((ptype_parser_name K v31 v32 v33).bind fun (v34, v35, v36, v37) => (ptype_parser_atom_c0 K v34 v35 v36 v37)) ((ptype_parser_fail K v31 v32 v33 6).bind fun (v50, v51, v52) => (some (.nil, v50, v51, v52))))))) v → Ev (fun K => ptype_parser_atom K l (i : Int) 0) v := fun h => by
      refine Ev.step (fun k => by rw [ptype_parser_atom]) ?_
      refine Ev.nF rfl ?_
      refine Ev.bind hpL ?_
      refine Ev.isF rfl ?_
      refine Ev.bind (key_f k1) ?_
      refine Ev.isF rfl ?_
      refine Ev.bind (key_f k2) ?_
      refine Ev.isF rfl ?_
      refine Ev.bind (key_f k3) ?_
      refine Ev.isF rfl ?_
      exact h
    cases k4 : keyS l i [40] with
    | true =>
      have hin := key_in k4
      rw [if_pos rfl]
      have hp := hty (i + 1) (by omega) (by omega)
      generalize typS l n (i + 1) = g at *
      obtain ⟨t, j, er⟩ := g
      obtain ⟨t', h1, h5, h4, h3⟩ := hp
      simp only at h1 h5 h4 h3 ⊢
      by_cases he : er = 0
      · subst he
        obtain ⟨e1, e2, e3⟩ := h5 rfl
        subst e1
        rw [if_pos rfl]
        cases k5 : keyS l j [41] with
        | true =>
          have hin5 := key_in k5
          rw [if_pos rfl]
          refine ⟨t', prog ?_, fun _ => ⟨rfl, by simp only; omega, by simp only; omega⟩, by simp only; omega, by simp only; omega⟩
          refine Ev.bind (key_t hl k4) ?_
          refine Ev.isT rfl ?_
          refine Ev.bind h1 ?_
          exact Ev.bind (must_t hl k5) Ev.pure
        | false =>
          rw [if_neg (by simp)]
          refine ⟨t', prog ?_, fun h => (by cases h), by simp only; omega, by simp only; omega⟩
          refine Ev.bind (key_t hl k4) ?_
          refine Ev.isT rfl ?_
          refine Ev.bind h1 ?_
          exact Ev.bind (must_f k5) Ev.pure
      · rw [if_neg he]
        refine ⟨t', prog ?_, fun h => absurd h he, by simp only; omega, by simp only; omega⟩
        refine Ev.bind (key_t hl k4) ?_
        refine Ev.isT rfl ?_
        refine Ev.bind h1 ?_
        exact Ev.bind (must_err l j er he _) Ev.pure
    | false =>
    rw [if_neg (by simp)]
    cases k5 : keyS l i [109, 117] with
    | false =>
      rw [if_neg (by simp)]
      refine ⟨.nil, prog ?_, fun h => (by cases h), Nat.le_refl _, hi⟩
      refine Ev.bind (key_f k4) ?_
      refine Ev.isF rfl ?_
      refine Ev.bind (key_f k5) ?_
      refine Ev.isF rfl ?_
      exact Ev.bind (a := (l, (i : Int), 6)) (Ev.congr (f := fun K => _) (Ev.dT rfl Ev.pure) (fun k => by rw [ptype_parser_fail])) Ev.pure
    | true =>
      have hin := key_in k5
      rw [if_pos rfl]
      have prog2 : ∀ {v : Tr × List Token × Int × Int} {s : List UInt8} {a : Int} {e : Int}, Ev (fun K => ptype_parser_name K l ((i + 1 : Nat) : Int) 0) (s, l, a, e) → Ev (fun K => ptype_parser_atom_c0 K s l a e) v → Ev (fun K => ptype_parser_atom K l (i : Int) 0) v := fun hn hc => prog (by
        refine Ev.bind (key_f k4) ?_
        refine Ev.isF rfl ?_
        refine Ev.bind (key_t hl k5) ?_
        refine Ev.isT rfl ?_
        exact Ev.bind hn hc)
      have hni := name_in (l := l) (i := ((i + 1 : Nat) : Int))
      generalize hN : nameS l ((i + 1 : Nat) : Int) = N at *
      obtain ⟨s, b⟩ := N
      simp only at hni ⊢
      cases b with
      | false =>
        rw [if_neg (by simp)]
        obtain ⟨t, ht⟩ := atom_c0_err l ((i + 1 : Nat) : Int) 6 (by decide) []
        exact ⟨t, prog2 (name_f hN) ht, fun h => (by cases h), by simp only; omega, by simp only; omega⟩
      | true =>
        have hni := hni rfl
        rw [if_pos rfl]
        cases k6 : keyS l ((i + 2 : Nat) : Int) [123] with
        | false =>
          rw [if_neg (by simp)]
          refine ⟨.node 7 0 s [] [], prog2 (name_t hl hN) ?_, fun h => (by cases h), by simp only; omega, by simp only; omega⟩
          refine Ev.step (fun k => by rw [ptype_parser_atom_c0]) ?_
          refine Ev.bind (must_f (l := l) (i := ((i + 2 : Nat) : Int)) k6) ?_
          refine Ev.bind (cons_err l _ 6 (by decide)) ?_
          refine Ev.bind (must_err l _ 6 (by decide) _) ?_
          exact Ev.bind (nodeP ..) Ev.pure
        | true =>
          have hin6 := key_in k6
          rw [if_pos rfl]
          have hc := hco (i + 3) (by omega) (by omega) [] (fun s => by simp [lookupM]) (by simp)
          generalize consS l n (i + 3) [] = g at *
          obtain ⟨c, j, er⟩ := g
          obtain ⟨c', h1, h5, h4, h3⟩ := hc
          simp only [wL_nil] at h1 h5 h4 h3 ⊢
          have h1' : Ev (fun K => ptype_parser_cons K l ((i + 3 : Nat) : Int) 0) (c', l, (j : Int), er) := Ev.step (fun k => by rw [ptype_parser_cons]) h1
          by_cases he : er = 0
          · subst he
            obtain ⟨e1, e2, e3⟩ := h5 rfl
            subst e1
            rw [if_pos rfl]
            cases k7 : keyS l j [125] with
            | true =>
              have hin7 := key_in k7
              rw [if_pos rfl]
              refine ⟨.node 7 0 s [] c', prog2 (name_t hl hN) ?_, fun _ => ⟨rfl, by simp only; omega, by simp only [w_node]; omega⟩, by simp only; omega, by simp only; omega⟩
              refine Ev.step (fun k => by rw [ptype_parser_atom_c0]) ?_
              refine Ev.bind (must_t hl (i := i + 2) k6) ?_
              refine Ev.bind h1' ?_
              refine Ev.bind (must_t hl k7) ?_
              exact Ev.bind (nodeP ..) Ev.pure
            | false =>
              rw [if_neg (by simp)]
              refine ⟨.node 7 0 s [] c', prog2 (name_t hl hN) ?_, fun h => (by cases h), by simp only; omega, by simp only; omega⟩
              refine Ev.step (fun k => by rw [ptype_parser_atom_c0]) ?_
              refine Ev.bind (must_t hl (i := i + 2) k6) ?_
              refine Ev.bind h1' ?_
              refine Ev.bind (must_f k7) ?_
              exact Ev.bind (nodeP ..) Ev.pure
          · rw [if_neg he]
            refine ⟨.node 7 0 s [] c', prog2 (name_t hl hN) ?_, fun h => absurd h he, by simp only; omega, by simp only; omega⟩
            refine Ev.step (fun k => by rw [ptype_parser_atom_c0]) ?_
            refine Ev.bind (must_t hl (i := i + 2) k6) ?_
            refine Ev.bind h1' ?_
            refine Ev.bind (must_err l j er he _) ?_
            exact Ev.bind (nodeP ..) Ev.pure
theorem ps_cons {n i : Nat} {out : List Tr} (hi : i ≤ l.length) (hty : ∀ j, i < j → j ≤ l.length → PS l ptype_parser_typ j (typS l n j)) (hco : ∀ j out, i < j → j ≤ l.length → PSC l j out (consS l n j out)) : PSC l i out (consS l (n + 1) i out) := by
  intro sn hsn ho
  rw [consS]
  have hni := name_in (l := l) (i := (i : Int))
  generalize hN : nameS l (i : Int) = N at *
  obtain ⟨s, b⟩ := N
  simp only at hni ⊢
  cases b with
  | false =>
    rw [if_neg (by simp)]
    obtain ⟨out', hc0⟩ := cons_c0_err l (i : Int) 6 (by decide) (out := out) (by omega) [] sn
    refine ⟨out', ?_, fun h => (by cases h), Nat.le_refl _, hi⟩
    refine Ev.step (fun k => by rw [ptype_parser_cons_l0]) ?_
    refine Ev.dT rfl ?_
    refine Ev.bind (name_f hN) ?_
    refine Ev.dF (by decide) ?_
    exact hc0
  | true =>
    have hni := hni rfl
    rw [if_pos rfl]
    by_cases hdup : s ∈ out.map nameOf
    · rw [if_pos hdup]
      obtain ⟨out', hc0⟩ := cons_c0_err l (i : Int) 9 (by decide) (out := out) (by omega) s sn
      refine ⟨out', ?_, fun h => (by cases h), Nat.le_refl _, hi⟩
      refine Ev.step (fun k => by rw [ptype_parser_cons_l0]) ?_
      refine Ev.dT rfl ?_
      refine Ev.bind (name_t hl hN) ?_
      refine Ev.dT rfl ?_
      refine Ev.isT (by rw [hsn]; exact decide_eq_true hdup) ?_
      exact Ev.bind (a := (l, (i : Int), 9)) (Ev.congr (f := fun K => _) (Ev.dT rfl Ev.pure) (fun k => by rw [ptype_parser_fail])) hc0
    · rw [if_neg hdup]
      have prog : ∀ {v : List Tr × List Token × Int × Int}, Ev (fun K => ptype_parser_cons_c0 K out s l ((i + 1 : Nat) : Int) 0 sn) v → Ev (fun K => ptype_parser_cons_l0 K out l (i : Int) 0 sn) v := fun h => by
        refine Ev.step (fun k => by rw [ptype_parser_cons_l0]) ?_
        refine Ev.dT rfl ?_
        refine Ev.bind (name_t hl hN) ?_
        refine Ev.dT rfl ?_
        refine Ev.isF (by rw [hsn]; exact decide_eq_false hdup) ?_
        exact h
      cases k1 : keyS l ((i + 1 : Nat) : Int) [111, 102] with
      | false =>
        rw [if_neg (by simp)]
        refine ⟨out ++ [.node 8 0 s [] [.nil]], prog ?_, fun h => (by cases h), by simp only; omega, by simp only; omega⟩
        refine Ev.step (fun k => by rw [ptype_parser_cons_c0]) ?_
        refine Ev.bind (must_f k1) ?_
        refine Ev.bind (typ_err l _ 6 (by decide)) ?_
        refine Ev.bind (nodeP ..) ?_
        refine Ev.opt (appL_ok (by simp; omega)) ?_
        refine Ev.bind (key_err l _ 6 (by decide) _) ?_
        exact Ev.isT rfl Ev.pure
      | true =>
        have hin1 := key_in k1
        rw [if_pos rfl]
        have hp := hty (i + 2) (by omega) (by omega)
        generalize typS l n (i + 2) = g at *
        obtain ⟨t, j, er⟩ := g
        obtain ⟨t', h1, h5, h4, h3⟩ := hp
        simp only at h1 h5 h4 h3 ⊢
        by_cases he : er = 0
        · subst he
          obtain ⟨e1, e2, e3⟩ := h5 rfl
          subst e1
          rw [if_pos rfl]
          have hw1 : (Tr.node 8 0 s [] [t']).w = 1 + t'.w := by rw [w_node, wL_cons, wL_nil]; omega
          have hwo : wL (out ++ [.node 8 0 s [] [t']]) = wL out + 1 + t'.w := by
            rw [wL_append, wL_cons, wL_nil, hw1]; omega
          cases k2 : keyS l j [124] with
          | false =>
            rw [if_neg (by simp)]
            refine ⟨out ++ [.node 8 0 s [] [t']], prog ?_, fun _ => ⟨rfl, by simp only; omega, by simp only; omega⟩, by simp only; omega, h3⟩
            refine Ev.step (fun k => by rw [ptype_parser_cons_c0]) ?_
            refine Ev.bind (must_t hl k1) ?_
            refine Ev.bind h1 ?_
            refine Ev.bind (nodeP ..) ?_
            refine Ev.opt (appL_ok (by simp; omega)) ?_
            refine Ev.bind (key_f k2) ?_
            exact Ev.isT rfl Ev.pure
          | true =>
            have hin2 := key_in k2
            rw [if_pos rfl]
            obtain ⟨c', g1, g5, g4, g3⟩ := hco (j + 1) (out ++ [.node 8 0 s [] [t']]) (by omega) (by omega) (updM sn s true) (by
              intro s'
              rw [lookup_upd, hsn]
              by_cases e : s' = s
              · rw [if_pos e]; simp [nameOf, e]
              · rw [if_neg e]; simp [nameOf, e]) (by simp; omega)
            refine ⟨c', prog ?_, fun h => ?_, by omega, g3⟩
            · refine Ev.step (fun k => by rw [ptype_parser_cons_c0]) ?_
              refine Ev.bind (must_t hl k1) ?_
              refine Ev.bind h1 ?_
              refine Ev.bind (nodeP ..) ?_
              refine Ev.opt (appL_ok (by simp; omega)) ?_
              refine Ev.bind (key_t hl k2) ?_
              refine Ev.isF rfl ?_
              exact g1
            · obtain ⟨q1, q2, q3⟩ := g5 h
              exact ⟨q1, by omega, by omega⟩
        · rw [if_neg he]
          refine ⟨out ++ [.node 8 0 s [] [t']], prog ?_, fun h => absurd h he, by simp only; omega, h3⟩
          refine Ev.step (fun k => by rw [ptype_parser_cons_c0]) ?_
          refine Ev.bind (must_t hl k1) ?_
          refine Ev.bind h1 ?_
          refine Ev.bind (nodeP ..) ?_
          refine Ev.opt (appL_ok (by simp; omega)) ?_
          refine Ev.bind (key_err l j er he _) ?_
          exact Ev.isT rfl Ev.pure
theorem ps_all : ∀ (n i : Nat), i ≤ l.length →
    (3 * (l.length - i) + 3 ≤ n → PS l ptype_parser_typ i (typS l n i)) ∧ (3 * (l.length - i) + 2 ≤ n → PS l ptype_parser_product i (prodS l n i)) ∧ (3 * (l.length - i) + 1 ≤ n → PS l ptype_parser_atom i (atomS l n i)) ∧
    (3 * (l.length - i) + 1 ≤ n → ∀ out, PSC l i out (consS l n i out)) := by
  intro n
  induction n with
  | zero => intro i hi; exact ⟨fun h => by omega, fun h => by omega, fun h => by omega, fun h => by omega⟩
  | succ n ih =>
    intro i hi
    refine ⟨fun h => ?_, fun h => ?_, fun h => ?_, fun h out => ?_⟩
    · exact ps_typ hl ((ih i hi).2.1 (by omega)) fun j h1 h2 => (ih j h2).1 (by omega)
    · exact ps_prod hl ((ih i hi).2.2.1 (by omega)) fun j h1 h2 => (ih j h2).2.1 (by omega)
    · exact ps_atom hl hi (fun j h1 h2 => (ih j h2).1 (by omega)) fun j h1 h2 => (ih j h2).2.2.2 (by omega) []
    · exact ps_cons hl hi (fun j h1 h2 => (ih j h2).1 (by omega)) fun j out h1 h2 => (ih j h2).2.2.2 (by omega) out
end
end Go.Proofs.YtnogkihchgnbcaaGreatDoor

