/- Joined texts: M3, M5p. -/
import Derived.Test.YtnogkihchgnbcaaGreatDoorGm
/- The program's parser of modules comes to its plain functions. Printed by gen8/m3.py. -/
namespace Go.Proofs.YtnogkihchgnbcaaGreatDoor
open Go Go.Am Go.Sx
abbrev TL : List Tr → Prop := fun _ => True
abbrev NE : Tr → Prop := fun t => t ≠ .nil
theorem bnd_assoc {α β γ : Type} {d : γ} {d' : β} {r : α × Nat × Int} {f : α → Nat → β × Nat × Int} {g : β → Nat → γ × Nat × Int} : bnd d (bnd d' r f) g = bnd d r fun a j => bnd d (f a j) g := by
  by_cases h : r.2.2 = 0
  · simp [bnd, h]
  · simp [bnd, h]
def begD (l : List Token) (top : Bool) (i : Nat) : Bool := anyK l i [kVal, kType, kData, kStr, kOpen, kInc] || (top && anyK l i [kSig, kFun])
def begS (l : List Token) (i : Nat) : Bool := anyK l i [kVal, kType, kData, kStr, kInc, kShare]
/-- declarations: what the program goes on with behind the first -/
def ID (l : List Token) (n : Nat) : Prop := ∀ j, j ≤ l.length → 8 * (l.length - j) + 2 ≤ n → ∀ top out, out.length ≤ j → Hs (fun K => (pmod_parser_decl K l (j : Int) 0 top).bind fun (v1, v2, v3, v4) => pmod_parser_decls_l0 K top out v1 v2 v3 v4) (QS l TL (mDecls l n top out j))
def bodyK (l : List Token) (r : LT) : RT := bnd .nil r fun k i => bnd .nil (ks l [kEnd] i) fun _ i => (.node 50 0 [] [] k, i, 0)
def IS (l : List Token) (n : Nat) : Prop := ∀ j, j ≤ l.length → 8 * (l.length - j) + 2 ≤ n → ∀ out, out.length ≤ j → Hs (fun K => (pmod_parser_spec K l (j : Int) 0).bind fun (v1, v2, v3, v4) => pmod_parser_body_l0 K v1 v2 v3 v4 50 0 [] [] out) (QS l TT (bodyK l (mSpecs l n out j)))
def IP (l : List Token) (n : Nat) : Prop := ∀ j, j ≤ l.length → 8 * (l.length - j) + 1 ≤ n → begS l j = true → Hs (fun K => pmod_parser_spec K l (j : Int) 0) (QS l NE (mSpec l n j))
def IE (l : List Token) (n : Nat) : Prop := ∀ j, j ≤ l.length → 8 * (l.length - j) + 1 ≤ n → ∀ top, begD l top j = true → Hs (fun K => pmod_parser_decl K l (j : Int) 0 top) (QS l NE (mDecl l n top j))
theorem qdecls {l : List Token} {i : Int} {top : Bool} {Q : List Tr × List Token × Int × Int → Prop} (h : Hs (fun K => (pmod_parser_decl K l i 0 top).bind fun (v1, v2, v3, v4) => pmod_parser_decls_l0 K top [] v1 v2 v3 v4) Q) : Hs (fun K => pmod_parser_decls K l i 0 top) Q :=
  Hs.step (fun k => by rw [pmod_parser_decls]) h
theorem spec_no {l : List Token} {i : Nat} (h : begS l i = false) : Ev (fun K => pmod_parser_spec K l (i : Int) 0) (.nil, l, (i : Int), 0) := by
  simp only [begS, anyK, List.any_cons, List.any_nil, Bool.or_eq_false_iff] at h
  obtain ⟨h1, h2, h3, h4, h5, h6, _⟩ := h
  refine Ev.step (fun k => by rw [pmod_parser_spec]) ?_
  refine Ev.bind (qkey_f h1) (Ev.isF rfl ?_)
  refine Ev.bind (qkey_f h2) (Ev.isF rfl ?_)
  refine Ev.bind (qkey_f h3) (Ev.isF rfl ?_)
  refine Ev.bind (qkey_f h4) (Ev.isF rfl ?_)
  refine Ev.bind (qkey_f h5) (Ev.isF rfl ?_)
  refine Ev.bind (qkey_f h6) (Ev.isF rfl ?_)
  exact Ev.pure
theorem decl_no {l : List Token} {i : Nat} {top : Bool} (h : begD l top i = false) : Ev (fun K => pmod_parser_decl K l (i : Int) 0 top) (.nil, l, (i : Int), 0) := by
  simp only [begD, anyK, List.any_cons, List.any_nil, Bool.or_eq_false_iff] at h
  obtain ⟨⟨h1, h2, h3, h4, h5, h6, _⟩, h7⟩ := h
  refine Ev.step (fun k => by rw [pmod_parser_decl]) ?_
  refine Ev.bind (qkey_f h1) (Ev.isF rfl ?_)
  refine Ev.bind (qkey_f h2) (Ev.isF rfl ?_)
  refine Ev.bind (qkey_f h3) (Ev.isF rfl ?_)
  refine Ev.bind (qkey_f h4) (Ev.isF rfl ?_)
  refine Ev.bind (qkey_f h5) (Ev.isF rfl ?_)
  refine Ev.bind (qkey_f h6) (Ev.isF rfl ?_)
  cases top with
  | false => exact Ev.isF rfl Ev.pure
  | true =>
    simp only [Bool.true_and, Bool.or_eq_false_iff] at h7
    obtain ⟨h7, h8, _⟩ := h7
    refine Ev.isT rfl ?_
    refine Ev.bind (qkey_f h7) (Ev.isF rfl ?_)
    refine Ev.bind (qkey_f h8) (Ev.isF rfl ?_)
    exact Ev.pure
section
variable {l : List Token} (hl : l.length ≤ 20000)
include hl
theorem mb_M {n i : Nat} (hi : i ≤ l.length) : Pz l i (2 * i) (mMod l n i) := (m_bd hl n i hi).1
theorem mb_P {n i : Nat} (hi : i ≤ l.length) : Pz l i (2 * i) (mPrim l n i) := (m_bd hl n i hi).2.2.1
theorem mb_S {n i : Nat} (hi : i ≤ l.length) : Pz l i (2 * i) (mSig l n i) := (m_bd hl n i hi).2.2.2.1
theorem mb_B {n i : Nat} (hi : i ≤ l.length) : Pz l i (2 * i) (mBody l n i) := (m_bd hl n i hi).2.2.2.2.2.1
theorem mb_Sp {n i : Nat} (hi : i ≤ l.length) : Pz l i (2 * i) (mSpec l n i) := (m_bd hl n i hi).2.2.2.2.2.2.2.1
theorem mb_Ds {n i : Nat} {top : Bool} {out : List Tr} (hi : i ≤ l.length) : Pr l i out (mDecls l n top out i) := (m_bd hl n i hi).2.2.2.2.2.2.2.2.1 top out
theorem mb_D {n i : Nat} {top : Bool} (hi : i ≤ l.length) : Pz l i (2 * i) (mDecl l n top i) := (m_bd hl n i hi).2.2.2.2.2.2.2.2.2 top
variable {n : Nat}
theorem qbsig (ihS : IX l n 2 pmod_parser_sig (mSig l n)) {s : List UInt8} {i : Nat} (hi : i ≤ l.length) (hn : 8 * (l.length - i) + 2 ≤ n) : Hs (fun K => pmod_parser_behind_sig K l (i : Int) 0 s) (QS l TT (bhd .nil l s (fun j => mSig l n j) i)) :=
  qbehind hl hi (fun _ h => Hs.step (fun k => by rw [pmod_parser_behind_sig]) h) (fun j hj _ => ihS j hj (by omega)) (fun j e he => qsig_err l j e he)
theorem qbmod (ihM : IX l n 2 pmod_parser_mod (mMod l n)) {s : List UInt8} {i : Nat} (hi : i ≤ l.length) (hn : 8 * (l.length - i) + 2 ≤ n) : Hs (fun K => pmod_parser_behind_mod K l (i : Int) 0 s) (QS l TT (bhd .nil l s (fun j => mMod l n j) i)) :=
  qbehind hl hi (fun _ h => Hs.step (fun k => by rw [pmod_parser_behind_mod]) h) (fun j hj _ => ihM j hj (by omega)) (fun j e he => qmod_err l j e he)
theorem pm_mod (ihP : IX l n 1 pmod_parser_prim (mPrim l n)) (ihML : IL l n pmod_parser_mod_l0 (mModL l n)) : IX l (n + 1) 2 pmod_parser_mod (mMod l (n + 1)) := by
  intro i hi hn
  rw [mMod]
  refine Hs.step (fun k => by rw [pmod_parser_mod]) ?_
  have b := mb_P hl (n := n) (i := i) (by omega)
  have p := ihP (i) (by omega) (by omega)
  generalize mPrim l n (i) = g1 at *
  obtain ⟨g1a, g1b, g1c⟩ := b
  refine Hs.par p (fun h1 _ => ?_) (fun a _ he => ?_)
  rotate_left
  · repeat' first
      | exact Hs.pure ⟨rfl, rfl, rfl, fun h => absurd h he, trivial⟩
      | exact Hs.ev (qmodl_err l _ _ he _) ⟨rfl, rfl, rfl, fun h => absurd h he, trivial⟩
  have g1c := g1c h1
  exact ihML g1.2.1 (by omega) (by omega) _
theorem pm_modl (ihS : IX l n 2 pmod_parser_sig (mSig l n)) (ihML : IL l n pmod_parser_mod_l0 (mModL l n)) : IL l (n + 1) pmod_parser_mod_l0 (mModL l (n + 1)) := by
  intro i hi hn m
  rw [mModL]
  refine Hs.step (fun k => by rw [pmod_parser_mod_l0]) ?_
  by_cases k0 : keyS l (i : Int) [58] = true
  · rw [if_pos k0]
    have hin := key_in k0
    refine Hs.evb (qkey_t hl k0) ?_
    refine Hs.isT rfl ?_
    have b := mb_S hl (n := n) (i := i + 1) (by omega)
    have p := ihS (i + 1) (by omega) (by omega)
    generalize mSig l n (i + 1) = g1 at *
    obtain ⟨g1a, g1b, g1c⟩ := b
    refine Hs.par p (fun h1 _ => ?_) (fun a _ he => ?_)
    rotate_left
    · repeat' first
        | exact Hs.pure ⟨rfl, rfl, rfl, fun h => absurd h he, trivial⟩
        | exact Hs.ev (qmodl_err l _ _ he _) ⟨rfl, rfl, rfl, fun h => absurd h he, trivial⟩
    have g1c := g1c h1
    exact ihML g1.2.1 (by omega) (by omega) _
  rw [if_neg k0]
  refine Hs.evb (qkey_f (by simpa using k0)) ?_
  refine Hs.isF rfl ?_
  by_cases k1 : keyS l (i : Int) [58, 62] = true
  · rw [if_pos k1]
    have hin := key_in k1
    refine Hs.evb (qkey_t hl k1) ?_
    refine Hs.isT rfl ?_
    have b := mb_S hl (n := n) (i := i + 1) (by omega)
    have p := ihS (i + 1) (by omega) (by omega)
    generalize mSig l n (i + 1) = g1 at *
    obtain ⟨g1a, g1b, g1c⟩ := b
    refine Hs.par p (fun h1 _ => ?_) (fun a _ he => ?_)
    rotate_left
    · repeat' first
        | exact Hs.pure ⟨rfl, rfl, rfl, fun h => absurd h he, trivial⟩
        | exact Hs.ev (qmodl_err l _ _ he _) ⟨rfl, rfl, rfl, fun h => absurd h he, trivial⟩
    have g1c := g1c h1
    exact ihML g1.2.1 (by omega) (by omega) _
  rw [if_neg k1]
  refine Hs.evb (qkey_f (by simpa using k1)) ?_
  refine Hs.isF rfl ?_
  exact Hs.pure ⟨rfl, rfl, rfl, fun _ => rfl, trivial⟩
theorem pm_sig (ihB : IX l n 1 pmod_parser_body (mBody l n)) (ihSL : IL l n pmod_parser_sig_l0 (mSigL l n)) : IX l (n + 1) 2 pmod_parser_sig (mSig l (n + 1)) := by
  intro i hi hn
  rw [mSig]
  refine Hs.step (fun k => by rw [pmod_parser_sig]) ?_
  have b := mb_B hl (n := n) (i := i) (by omega)
  have p := ihB (i) (by omega) (by omega)
  generalize mBody l n (i) = g1 at *
  obtain ⟨g1a, g1b, g1c⟩ := b
  refine Hs.par p (fun h1 _ => ?_) (fun a _ he => ?_)
  rotate_left
  · repeat' first
      | exact Hs.pure ⟨rfl, rfl, rfl, fun h => absurd h he, trivial⟩
      | exact Hs.ev (qsigl_err l _ _ he _) ⟨rfl, rfl, rfl, fun h => absurd h he, trivial⟩
  have g1c := g1c h1
  exact ihSL g1.2.1 (by omega) (by omega) _
theorem pm_sigl (ihSL : IL l n pmod_parser_sig_l0 (mSigL l n)) : IL l (n + 1) pmod_parser_sig_l0 (mSigL l (n + 1)) := by
  intro i hi hn m
  rw [mSigL]
  refine Hs.step (fun k => by rw [pmod_parser_sig_l0]) ?_
  by_cases k0 : keyS l (i : Int) kWhere = true
  · rw [if_pos k0]
    have hin := key_in k0
    refine Hs.evb (qkey_t hl k0) ?_
    refine Hs.isT rfl ?_
    have b := bw_ks l [kType] (i + 1) (by omega)
    have p := qmust hl [kType] (by decide) (i + 1)
    generalize ks l [kType] (i + 1) = g1 at *
    obtain ⟨g1a, g1b⟩ := b
    refine Hs.parU p (fun h1 => ?_) (fun he => ?_)
    rotate_left
    · repeat' first
        | exact Hs.pure ⟨rfl, rfl, rfl, fun h => absurd h he, trivial⟩
        | refine Hs.evb (qmust_err l _ _ he _ (by decide)) ?_
        | refine Hs.evb (qlong_err l _ _ he) ?_
        | refine Hs.evb (qtyp_err l _ _ he) ?_
        | refine Hs.evb (nodeM ..) ?_
        | exact Hs.ev (qsigl_err l _ _ he _) ⟨rfl, rfl, rfl, fun h => absurd h he, trivial⟩
    have b := bw_lg (l := l) (i := g1.2.1) (by omega)
    have sN := lg_at (l := l) (i := g1.2.1)
    have p := qlong hl (g1.2.1)
    generalize lgR l (g1.2.1) = g2 at *
    obtain ⟨g2a, g2b⟩ := b
    refine Hs.par p (fun h2 _ => ?_) (fun a _ he => ?_)
    rotate_left
    · repeat' first
        | exact Hs.pure ⟨rfl, rfl, rfl, fun h => absurd h he, trivial⟩
        | refine Hs.evb (qmust_err l _ _ he _ (by decide)) ?_
        | refine Hs.evb (qtyp_err l _ _ he) ?_
        | refine Hs.evb (nodeM ..) ?_
        | exact Hs.ev (qsigl_err l _ _ he _) ⟨rfl, rfl, rfl, fun h => absurd h he, trivial⟩
    have sN := sN h2
    have b := bw_ks l [[61]] (g2.2.1) (by omega)
    have p := qmust hl [[61]] (by decide) (g2.2.1)
    generalize ks l [[61]] (g2.2.1) = g3 at *
    obtain ⟨g3a, g3b⟩ := b
    refine Hs.parU p (fun h3 => ?_) (fun he => ?_)
    rotate_left
    · repeat' first
        | exact Hs.pure ⟨rfl, rfl, rfl, fun h => absurd h he, trivial⟩
        | refine Hs.evb (qtyp_err l _ _ he) ?_
        | refine Hs.evb (nodeM ..) ?_
        | exact Hs.ev (qsigl_err l _ _ he _) ⟨rfl, rfl, rfl, fun h => absurd h he, trivial⟩
    have b := ty_pz hl (i := g3.2.1) (by omega)
    have p := qtyp hl (i := g3.2.1) (by omega)
    generalize tyR l (g3.2.1) = g4 at *
    obtain ⟨g4a, g4b, g4c⟩ := b
    refine Hs.par p (fun h4 _ => ?_) (fun a _ he => ?_)
    rotate_left
    · repeat' first
        | exact Hs.pure ⟨rfl, rfl, rfl, fun h => absurd h he, trivial⟩
        | refine Hs.evb (nodeM ..) ?_
        | exact Hs.ev (qsigl_err l _ _ he _) ⟨rfl, rfl, rfl, fun h => absurd h he, trivial⟩
    have g4c := g4c h4
    refine Hs.evb (nodeM ..) ?_
    exact ihSL g4.2.1 (by omega) (by omega) _
  rw [if_neg k0]
  refine Hs.evb (qkey_f (by simpa using k0)) ?_
  refine Hs.isF rfl ?_
  exact Hs.pure ⟨rfl, rfl, rfl, fun _ => rfl, trivial⟩
theorem pm_body (ihS : IS l n) : IX l (n + 1) 1 pmod_parser_body (mBody l (n + 1)) := by
  intro i hi hn
  rw [mBody]
  refine Hs.step (fun k => by rw [pmod_parser_body]) ?_
  by_cases k0 : keyS l (i : Int) kSg = true
  · rw [if_pos k0]
    have hin := key_in k0
    refine Hs.evb (qkey_t hl k0) ?_
    refine Hs.isF rfl ?_
    refine Hs.evb (nodeO ..) ?_
    exact ihS (i + 1) (by omega) (by omega) [] (by simp)
  rw [if_neg k0]
  refine Hs.evb (qkey_f (by simpa using k0)) ?_
  refine Hs.isT rfl ?_
  have b := bw_nm (l := l) (i := i) (by omega)
  have sN := nm_at (l := l) (i := i)
  have p := qname hl (i)
  generalize nmR l (i) = g1 at *
  obtain ⟨g1a, g1b⟩ := b
  refine Hs.par p (fun h1 _ => ?_) (fun a _ he => ?_)
  rotate_left
  · repeat' first
      | exact Hs.pure ⟨rfl, rfl, rfl, fun h => absurd h he, trivial⟩
      | refine Hs.evb (nodeO ..) ?_
  have sN := sN h1
  exact Hs.evb (nodeO ..) (Hs.pure ⟨rfl, rfl, rfl, fun _ => rfl, trivial⟩)
theorem pm_specs (ihP : IP l n) (ihS : IS l n) : IS l (n + 1) := by
  intro i hi hn out ho
  rw [mSpecs]
  by_cases hb : begS l i = true
  · rw [if_pos (show anyK l i [kVal, kType, kData, kStr, kInc, kShare] = true from hb)]
    unfold bodyK
    rw [bnd_assoc]
    have b := mb_Sp hl (n := n) (i := i) (by omega)
    have p := ihP i (by omega) (by omega) hb
    generalize mSpec l n i = g1 at *
    obtain ⟨g1a, g1b, g1c⟩ := b
    refine Hs.par p (fun h1 hne => ?_) (fun a _ he => ?_)
    · have g1c := g1c h1
      obtain ⟨t, j, e⟩ := g1
      cases t with
      | nil => exact absurd rfl hne
      | node c m s s' kk =>
        refine Hs.step (F := fun K => pmod_parser_body_l0 K (.node c m s s' kk) l (j : Int) 0 50 0 [] [] out) (fun k => by rw [pmod_parser_body_l0]) ?_
        refine Hs.opt (appL_ok (by simp; omega)) ?_
        exact ihS j (by omega) (by simp only at g1c; omega) _ (by simp only at g1c; simp; omega)
    · show Hs (fun K => pmod_parser_body_l0 K a l ((g1.2.1 : Nat) : Int) g1.2.2 50 0 [] [] out) _
      have tail : ∀ out : List Tr, Hs (fun K => pmod_parser_body_l0 K .nil l ((g1.2.1 : Nat) : Int) g1.2.2 50 0 [] [] out) (QS l TT ((.nil, g1.2.1, g1.2.2) : RT)) := fun out => by
        refine Hs.step (fun k => by rw [pmod_parser_body_l0]) ?_
        refine Hs.evb (qmust_err l _ _ he _ (by decide)) ?_
        exact Hs.pure ⟨rfl, rfl, rfl, fun h => absurd h he, trivial⟩
      cases a with
      | nil => exact tail out
      | node c m s s' kk =>
        refine Hs.step (fun k => by rw [pmod_parser_body_l0]) ?_
        refine Hs.opt (appL_ok (by simp; omega)) ?_
        refine Hs.evb (qspec_err l _ _ he) ?_
        exact tail _
  · rw [if_neg (show ¬ anyK l i [kVal, kType, kData, kStr, kInc, kShare] = true from hb)]
    refine Hs.evb (spec_no (by simpa using hb)) ?_
    refine Hs.step (F := fun K => pmod_parser_body_l0 K .nil l (i : Int) 0 50 0 [] [] out) (fun k => by rw [pmod_parser_body_l0]) ?_
    unfold bodyK
    rw [bnd_ok]
    have b := bw_ks l [kEnd] (i) (by omega)
    have p := qmust hl [kEnd] (by decide) (i)
    generalize ks l [kEnd] (i) = g1 at *
    obtain ⟨g1a, g1b⟩ := b
    refine Hs.parU p (fun h1 => ?_) (fun he => ?_)
    rotate_left
    · exact Hs.pure ⟨rfl, rfl, rfl, fun h => absurd h he, trivial⟩
    exact Hs.pure ⟨rfl, rfl, rfl, fun _ => rfl, trivial⟩
theorem pm_decls (ihE : IE l n) (ihD : ID l n) : ID l (n + 1) := by
  intro i hi hn top out ho
  rw [mDecls]
  by_cases hb : begD l top i = true
  · rw [if_pos (show (anyK l i [kVal, kType, kData, kStr, kOpen, kInc] || (top && anyK l i [kSig, kFun])) = true from hb)]
    have b := mb_D hl (n := n) (top := top) (i := i) (by omega)
    have p := ihE i (by omega) (by omega) top hb
    generalize mDecl l n top i = g1 at *
    obtain ⟨g1a, g1b, g1c⟩ := b
    refine Hs.par p (fun h1 hne => ?_) (fun a _ he => ?_)
    · have g1c := g1c h1
      obtain ⟨t, j, e⟩ := g1
      cases t with
      | nil => exact absurd rfl hne
      | node c m s s' kk =>
        refine Hs.step (F := fun K => pmod_parser_decls_l0 K top out (.node c m s s' kk) l (j : Int) 0) (fun k => by rw [pmod_parser_decls_l0]) ?_
        refine Hs.opt (appL_ok (by simp; omega)) ?_
        exact ihD j (by omega) (by simp only at g1c; omega) _ _ (by simp only at g1c; simp; omega)
    · show Hs (fun K => pmod_parser_decls_l0 K top out a l ((g1.2.1 : Nat) : Int) g1.2.2) _
      have tail : ∀ out : List Tr, Hs (fun K => pmod_parser_decls_l0 K top out .nil l ((g1.2.1 : Nat) : Int) g1.2.2) (QS l TL (([], g1.2.1, g1.2.2) : LT)) := fun out => by
        refine Hs.step (fun k => by rw [pmod_parser_decls_l0]) ?_
        exact Hs.pure ⟨rfl, rfl, rfl, fun h => absurd h he, trivial⟩
      cases a with
      | nil => exact tail out
      | node c m s s' kk =>
        refine Hs.step (fun k => by rw [pmod_parser_decls_l0]) ?_
        refine Hs.opt (appL_ok (by simp; omega)) ?_
        refine Hs.evb (qdecl_err l _ _ he _) ?_
        exact tail _
  · rw [if_neg (show ¬ (anyK l i [kVal, kType, kData, kStr, kOpen, kInc] || (top && anyK l i [kSig, kFun])) = true from hb)]
    refine Hs.evb (decl_no (by simpa using hb)) ?_
    refine Hs.step (F := fun K => pmod_parser_decls_l0 K top out .nil l (i : Int) 0) (fun k => by rw [pmod_parser_decls_l0]) ?_
    exact Hs.pure ⟨rfl, rfl, rfl, fun _ => rfl, trivial⟩
theorem pm_prim (ihM : IX l n 2 pmod_parser_mod (mMod l n)) (ihDs : ID l n) : IX l (n + 1) 1 pmod_parser_prim (mPrim l (n + 1)) := by
  intro i hi hn
  rw [mPrim]
  refine Hs.step (fun k => by rw [pmod_parser_prim]) ?_
  by_cases k0 : keyS l (i : Int) kStruct = true
  · rw [if_pos k0]
    have hin := key_in k0
    refine Hs.evb (qkey_t hl k0) ?_
    refine Hs.isT rfl ?_
    have b := mb_Ds hl (n := n) (top := false) (out := []) (i := i + 1) (by omega)
    have p := qdecls (ihDs (i + 1) (by omega) (by omega) false [] (by simp))
    generalize mDecls l n false [] (i + 1) = g1 at *
    obtain ⟨g1a, g1b, g1c⟩ := b
    refine Hs.par p (fun h1 _ => ?_) (fun a _ he => ?_)
    rotate_left
    · repeat' first
        | exact Hs.pure ⟨rfl, rfl, rfl, fun h => absurd h he, trivial⟩
        | refine Hs.evb (qmust_err l _ _ he _ (by decide)) ?_
        | refine Hs.evb (nodeM ..) ?_
    have g1c := g1c h1
    have b := bw_ks l [kEnd] (g1.2.1) (by omega)
    have p := qmust hl [kEnd] (by decide) (g1.2.1)
    generalize ks l [kEnd] (g1.2.1) = g2 at *
    obtain ⟨g2a, g2b⟩ := b
    refine Hs.parU p (fun h2 => ?_) (fun he => ?_)
    rotate_left
    · repeat' first
        | exact Hs.pure ⟨rfl, rfl, rfl, fun h => absurd h he, trivial⟩
        | refine Hs.evb (nodeM ..) ?_
    exact Hs.evb (nodeM ..) (Hs.pure ⟨rfl, rfl, rfl, fun _ => rfl, trivial⟩)
  rw [if_neg k0]
  refine Hs.evb (qkey_f (by simpa using k0)) ?_
  refine Hs.isF rfl ?_
  by_cases k1 : keyS l (i : Int) [40] = true
  · rw [if_pos k1]
    have hin := key_in k1
    refine Hs.evb (qkey_t hl k1) ?_
    refine Hs.isT rfl ?_
    have b := mb_M hl (n := n) (i := i + 1) (by omega)
    have p := ihM (i + 1) (by omega) (by omega)
    generalize mMod l n (i + 1) = g1 at *
    obtain ⟨g1a, g1b, g1c⟩ := b
    refine Hs.par p (fun h1 _ => ?_) (fun a _ he => ?_)
    rotate_left
    · repeat' first
        | exact Hs.pure ⟨rfl, rfl, rfl, fun h => absurd h he, trivial⟩
        | refine Hs.evb (qmust_err l _ _ he _ (by decide)) ?_
    have g1c := g1c h1
    have b := bw_ks l [[41]] (g1.2.1) (by omega)
    have p := qmust hl [[41]] (by decide) (g1.2.1)
    generalize ks l [[41]] (g1.2.1) = g2 at *
    obtain ⟨g2a, g2b⟩ := b
    refine Hs.parU p (fun h2 => ?_) (fun he => ?_)
    rotate_left
    · exact Hs.pure ⟨rfl, rfl, rfl, fun h => absurd h he, trivial⟩
    exact Hs.pure ⟨rfl, rfl, rfl, fun _ => rfl, trivial⟩
  rw [if_neg k1]
  refine Hs.evb (qkey_f (by simpa using k1)) ?_
  refine Hs.isF rfl ?_
  have tail : Hs (fun K => (pmod_parser_long K l (i : Int) 0).bind fun (v36, v37, v38, v39) => (pmod_node K 41 v36 []).bind fun v40 => some (v40, v37, v38, v39)) (QS l TT (bnd .nil (lgR l i) fun s i => (.node 41 0 s [] [], i, 0))) := by
    have b := bw_lg (l := l) (i := i) (by omega)
    have sN := lg_at (l := l) (i := i)
    have p := qlong hl (i)
    generalize lgR l (i) = g1 at *
    obtain ⟨g1a, g1b⟩ := b
    refine Hs.par p (fun h1 _ => ?_) (fun a _ he => ?_)
    rotate_left
    · repeat' first
        | exact Hs.pure ⟨rfl, rfl, rfl, fun h => absurd h he, trivial⟩
        | refine Hs.evb (nodeM ..) ?_
    have sN := sN h1
    exact Hs.evb (nodeM ..) (Hs.pure ⟨rfl, rfl, rfl, fun _ => rfl, trivial⟩)
  refine Hs.evb (ev_pName l i) ?_
  by_cases k2 : (nameS l (i : Int)).2 = true ∧ keyS l ((i + 1 : Nat) : Int) [40] = true
  · rw [if_pos k2]
    have hin := key_in k2.2
    generalize nameS l (i : Int) = N at *
    obtain ⟨s, bb⟩ := N
    simp only at k2 ⊢
    refine Hs.isT k2.1 ?_
    rw [wr1 (by omega), wr2 (by omega)]
    refine Hs.evb (ev_pKey l _ _) ?_
    refine Hs.isT k2.2 ?_
    refine Hs.d (fun _ => ?_) (fun h => absurd trivial h)
    refine Hs.step (fun k => by rw [pmod_parser_prim_c0]) ?_
    have b := mb_M hl (n := n) (i := i + 2) (by omega)
    have p := ihM (i + 2) (by omega) (by omega)
    generalize mMod l n (i + 2) = g1 at *
    obtain ⟨g1a, g1b, g1c⟩ := b
    refine Hs.par p (fun h1 _ => ?_) (fun a _ he => ?_)
    rotate_left
    · repeat' first
        | exact Hs.pure ⟨rfl, rfl, rfl, fun h => absurd h he, trivial⟩
        | refine Hs.evb (qmust_err l _ _ he _ (by decide)) ?_
        | refine Hs.evb (nodeM ..) ?_
    have g1c := g1c h1
    have b := bw_ks l [[41]] (g1.2.1) (by omega)
    have p := qmust hl [[41]] (by decide) (g1.2.1)
    generalize ks l [[41]] (g1.2.1) = g2 at *
    obtain ⟨g2a, g2b⟩ := b
    refine Hs.parU p (fun h2 => ?_) (fun he => ?_)
    rotate_left
    · repeat' first
        | exact Hs.pure ⟨rfl, rfl, rfl, fun h => absurd h he, trivial⟩
        | refine Hs.evb (nodeM ..) ?_
    exact Hs.evb (nodeM ..) (Hs.pure ⟨rfl, rfl, rfl, fun _ => rfl, trivial⟩)
  rw [if_neg k2]
  generalize nameS l (i : Int) = N at *
  obtain ⟨s, bb⟩ := N
  simp only at k2 ⊢
  refine Hs.is (fun hb => ?_) (fun _ => tail)
  rw [wr1 (by omega)]
  refine Hs.evb (ev_pKey l _ _) ?_
  exact Hs.is (fun hk => absurd ⟨hb, hk⟩ k2) (fun _ => tail)
theorem pm_spec (ihS : IX l n 2 pmod_parser_sig (mSig l n)) : IP l (n + 1) := by
  intro i hi hn hb
  rw [mSpec]
  refine Hs.step (fun k => by rw [pmod_parser_spec]) ?_
  by_cases k0 : keyS l (i : Int) kVal = true
  · rw [if_pos k0]
    have hin := key_in k0
    refine Hs.evb (qkey_t hl k0) ?_
    refine Hs.isT rfl ?_
    have b := bw_nm (l := l) (i := i + 1) (by omega)
    have sN := nm_at (l := l) (i := i + 1)
    have p := qname hl (i + 1)
    generalize nmR l (i + 1) = g1 at *
    obtain ⟨g1a, g1b⟩ := b
    refine Hs.par p (fun h1 _ => ?_) (fun a _ he => ?_)
    rotate_left
    · repeat' first
        | exact Hs.pure ⟨rfl, rfl, rfl, fun h => absurd h he, nofun⟩
        | refine Hs.evb (qbtyp_err l _ _ he _) ?_
        | refine Hs.evb (nodeM ..) ?_
    have sN := sN h1
    have b := kt_pz (s := [58]) (f := fun j => tyR l j) (i := g1.2.1) (by omega) (fun j hj => ty_pz hl hj)
    have p := qbtyp hl [58] (i := g1.2.1) (by omega)
    generalize bhd .nil l [58] (fun j => tyR l j) (g1.2.1) = g2 at *
    obtain ⟨g2a, g2b, g2c⟩ := b
    refine Hs.par p (fun h2 _ => ?_) (fun a _ he => ?_)
    rotate_left
    · repeat' first
        | exact Hs.pure ⟨rfl, rfl, rfl, fun h => absurd h he, nofun⟩
        | refine Hs.evb (nodeM ..) ?_
    have g2c := g2c h2
    exact Hs.evb (nodeM ..) (Hs.pure ⟨rfl, rfl, rfl, fun _ => rfl, nofun⟩)
  rw [if_neg k0]
  refine Hs.evb (qkey_f (by simpa using k0)) ?_
  refine Hs.isF rfl ?_
  by_cases k1 : keyS l (i : Int) kType = true
  · rw [if_pos k1]
    have hin := key_in k1
    refine Hs.evb (qkey_t hl k1) ?_
    refine Hs.isT rfl ?_
    have b := bw_nm (l := l) (i := i + 1) (by omega)
    have sN := nm_at (l := l) (i := i + 1)
    have p := qname hl (i + 1)
    generalize nmR l (i + 1) = g1 at *
    obtain ⟨g1a, g1b⟩ := b
    refine Hs.par p (fun h1 _ => ?_) (fun a _ he => ?_)
    rotate_left
    · repeat' first
        | exact Hs.pure ⟨rfl, rfl, rfl, fun h => absurd h he, nofun⟩
        | refine Hs.evb (qtyp_err l _ _ he) ?_
        | refine Hs.evb (nodeM ..) ?_
        | refine Hs.evb (qkey_err l _ _ he _) ?_
        | refine Hs.isF rfl ?_
        | refine Hs.isT rfl ?_
    have sN := sN h1
    by_cases j1 : keyS l (g1.2.1 : Int) [61] = true
    · rw [if_pos j1]
      have hin2 := key_in j1
      refine Hs.evb (qkey_t hl j1) ?_
      refine Hs.isF rfl ?_
      have b := ty_pz hl (i := g1.2.1 + 1) (by omega)
      have p := qtyp hl (i := g1.2.1 + 1) (by omega)
      generalize tyR l (g1.2.1 + 1) = g2 at *
      obtain ⟨g2a, g2b, g2c⟩ := b
      refine Hs.par p (fun h2 _ => ?_) (fun a _ he => ?_)
      rotate_left
      · repeat' first
          | exact Hs.pure ⟨rfl, rfl, rfl, fun h => absurd h he, nofun⟩
          | refine Hs.evb (nodeM ..) ?_
      have g2c := g2c h2
      exact Hs.evb (nodeM ..) (Hs.pure ⟨rfl, rfl, rfl, fun _ => rfl, nofun⟩)
    rw [if_neg j1]
    refine Hs.evb (qkey_f (by simpa using j1)) ?_
    refine Hs.isT rfl ?_
    exact Hs.evb (nodeM ..) (Hs.pure ⟨rfl, rfl, rfl, fun _ => rfl, nofun⟩)
  rw [if_neg k1]
  refine Hs.evb (qkey_f (by simpa using k1)) ?_
  refine Hs.isF rfl ?_
  by_cases k2 : keyS l (i : Int) kData = true
  · rw [if_pos k2]
    have hin := key_in k2
    refine Hs.evb (qkey_t hl k2) ?_
    refine Hs.isT rfl ?_
    have b := bw_nm (l := l) (i := i + 1) (by omega)
    have sN := nm_at (l := l) (i := i + 1)
    have p := qname hl (i + 1)
    generalize nmR l (i + 1) = g1 at *
    obtain ⟨g1a, g1b⟩ := b
    refine Hs.par p (fun h1 _ => ?_) (fun a _ he => ?_)
    rotate_left
    · repeat' first
        | exact Hs.pure ⟨rfl, rfl, rfl, fun h => absurd h he, nofun⟩
        | refine Hs.evb (qmust_err l _ _ he _ (by decide)) ?_
        | refine Hs.evb (qcons_err l _ _ he) ?_
        | refine Hs.evb (nodeM ..) ?_
    have sN := sN h1
    have b := bw_ks l [[61]] (g1.2.1) (by omega)
    have p := qmust hl [[61]] (by decide) (g1.2.1)
    generalize ks l [[61]] (g1.2.1) = g2 at *
    obtain ⟨g2a, g2b⟩ := b
    refine Hs.parU p (fun h2 => ?_) (fun he => ?_)
    rotate_left
    · repeat' first
        | exact Hs.pure ⟨rfl, rfl, rfl, fun h => absurd h he, nofun⟩
        | refine Hs.evb (qcons_err l _ _ he) ?_
        | refine Hs.evb (nodeM ..) ?_
    have b := cn_pq hl (i := g2.2.1) (by omega)
    have p := qcons hl (i := g2.2.1) (by omega)
    generalize cnR l (g2.2.1) = g3 at *
    obtain ⟨g3a, g3b, g3c⟩ := b
    refine Hs.par p (fun h3 _ => ?_) (fun a _ he => ?_)
    rotate_left
    · repeat' first
        | exact Hs.pure ⟨rfl, rfl, rfl, fun h => absurd h he, nofun⟩
        | refine Hs.evb (nodeM ..) ?_
    have g3c := g3c h3
    exact Hs.evb (nodeM ..) (Hs.pure ⟨rfl, rfl, rfl, fun _ => rfl, nofun⟩)
  rw [if_neg k2]
  refine Hs.evb (qkey_f (by simpa using k2)) ?_
  refine Hs.isF rfl ?_
  by_cases k3 : keyS l (i : Int) kStr = true
  · rw [if_pos k3]
    have hin := key_in k3
    refine Hs.evb (qkey_t hl k3) ?_
    refine Hs.isT rfl ?_
    have b := bw_nm (l := l) (i := i + 1) (by omega)
    have sN := nm_at (l := l) (i := i + 1)
    have p := qname hl (i + 1)
    generalize nmR l (i + 1) = g1 at *
    obtain ⟨g1a, g1b⟩ := b
    refine Hs.par p (fun h1 _ => ?_) (fun a _ he => ?_)
    rotate_left
    · repeat' first
        | exact Hs.pure ⟨rfl, rfl, rfl, fun h => absurd h he, nofun⟩
        | refine Hs.evb (qbsig_err l _ _ he _) ?_
        | refine Hs.evb (nodeM ..) ?_
    have sN := sN h1
    have b := kt_pz (s := [58]) (f := fun j => mSig l n j) (i := g1.2.1) (by omega) (fun j hj => mb_S hl hj)
    have p := qbsig hl ihS (s := [58]) (i := g1.2.1) (by omega) (by omega)
    generalize bhd .nil l [58] (fun j => mSig l n j) (g1.2.1) = g2 at *
    obtain ⟨g2a, g2b, g2c⟩ := b
    refine Hs.par p (fun h2 _ => ?_) (fun a _ he => ?_)
    rotate_left
    · repeat' first
        | exact Hs.pure ⟨rfl, rfl, rfl, fun h => absurd h he, nofun⟩
        | refine Hs.evb (nodeM ..) ?_
    have g2c := g2c h2
    exact Hs.evb (nodeM ..) (Hs.pure ⟨rfl, rfl, rfl, fun _ => rfl, nofun⟩)
  rw [if_neg k3]
  refine Hs.evb (qkey_f (by simpa using k3)) ?_
  refine Hs.isF rfl ?_
  by_cases k4 : keyS l (i : Int) kInc = true
  · rw [if_pos k4]
    have hin := key_in k4
    refine Hs.evb (qkey_t hl k4) ?_
    refine Hs.isT rfl ?_
    have b := mb_S hl (n := n) (i := i + 1) (by omega)
    have p := ihS (i + 1) (by omega) (by omega)
    generalize mSig l n (i + 1) = g1 at *
    obtain ⟨g1a, g1b, g1c⟩ := b
    refine Hs.par p (fun h1 _ => ?_) (fun a _ he => ?_)
    rotate_left
    · repeat' first
        | exact Hs.pure ⟨rfl, rfl, rfl, fun h => absurd h he, nofun⟩
        | refine Hs.evb (nodeM ..) ?_
    have g1c := g1c h1
    exact Hs.evb (nodeM ..) (Hs.pure ⟨rfl, rfl, rfl, fun _ => rfl, nofun⟩)
  rw [if_neg k4]
  refine Hs.evb (qkey_f (by simpa using k4)) ?_
  refine Hs.isF rfl ?_
  by_cases k5 : keyS l (i : Int) kShare = true
  · rw [if_pos k5]
    have hin := key_in k5
    refine Hs.evb (qkey_t hl k5) ?_
    refine Hs.isT rfl ?_
    have b := bw_ks l [kType] (i + 1) (by omega)
    have p := qmust hl [kType] (by decide) (i + 1)
    generalize ks l [kType] (i + 1) = g1 at *
    obtain ⟨g1a, g1b⟩ := b
    refine Hs.parU p (fun h1 => ?_) (fun he => ?_)
    rotate_left
    · repeat' first
        | exact Hs.pure ⟨rfl, rfl, rfl, fun h => absurd h he, nofun⟩
        | refine Hs.evb (qmust_err l _ _ he _ (by decide)) ?_
        | refine Hs.evb (qlong_err l _ _ he) ?_
    have b := bw_lg (l := l) (i := g1.2.1) (by omega)
    have sN := lg_at (l := l) (i := g1.2.1)
    have p := qlong hl (g1.2.1)
    generalize lgR l (g1.2.1) = g2 at *
    obtain ⟨g2a, g2b⟩ := b
    refine Hs.par p (fun h2 _ => ?_) (fun a _ he => ?_)
    rotate_left
    · repeat' first
        | exact Hs.pure ⟨rfl, rfl, rfl, fun h => absurd h he, nofun⟩
        | refine Hs.evb (qmust_err l _ _ he _ (by decide)) ?_
        | refine Hs.evb (qlong_err l _ _ he) ?_
    have sN := sN h2
    have b := bw_ks l [[61]] (g2.2.1) (by omega)
    have p := qmust hl [[61]] (by decide) (g2.2.1)
    generalize ks l [[61]] (g2.2.1) = g3 at *
    obtain ⟨g3a, g3b⟩ := b
    refine Hs.parU p (fun h3 => ?_) (fun he => ?_)
    rotate_left
    · repeat' first
        | exact Hs.pure ⟨rfl, rfl, rfl, fun h => absurd h he, nofun⟩
        | refine Hs.evb (qlong_err l _ _ he) ?_
    have b := bw_lg (l := l) (i := g3.2.1) (by omega)
    have sN := lg_at (l := l) (i := g3.2.1)
    have p := qlong hl (g3.2.1)
    generalize lgR l (g3.2.1) = g4 at *
    obtain ⟨g4a, g4b⟩ := b
    refine Hs.par p (fun h4 _ => ?_) (fun a _ he => ?_)
    rotate_left
    · exact Hs.pure ⟨rfl, rfl, rfl, fun h => absurd h he, nofun⟩
    have sN := sN h4
    exact Hs.pure ⟨rfl, rfl, rfl, fun _ => rfl, nofun⟩
  rw [if_neg k5]
  refine Hs.evb (qkey_f (by simpa using k5)) ?_
  refine Hs.isF rfl ?_
  exact absurd hb (by simp [begS, anyK, k0, k1, k2, k3, k4, k5])
theorem pm_decl (ihS : IX l n 2 pmod_parser_sig (mSig l n)) (ihM : IX l n 2 pmod_parser_mod (mMod l n)) : IE l (n + 1) := by
  intro i hi hn top hb
  rw [mDecl]
  refine Hs.step (fun k => by rw [pmod_parser_decl]) ?_
  by_cases k0 : keyS l (i : Int) kVal = true
  · rw [if_pos k0]
    have hin := key_in k0
    refine Hs.evb (qkey_t hl k0) ?_
    refine Hs.isT rfl ?_
    have b := bw_nm (l := l) (i := i + 1) (by omega)
    have sN := nm_at (l := l) (i := i + 1)
    have p := qname hl (i + 1)
    generalize nmR l (i + 1) = g1 at *
    obtain ⟨g1a, g1b⟩ := b
    refine Hs.par p (fun h1 _ => ?_) (fun a _ he => ?_)
    rotate_left
    · repeat' first
        | exact Hs.pure ⟨rfl, rfl, rfl, fun h => absurd h he, nofun⟩
        | refine Hs.evb (qtyp_err l _ _ he) ?_
        | refine Hs.evb (qbexpr_err l _ _ he _) ?_
        | refine Hs.evb (nodeO ..) ?_
        | refine Hs.opt (appL_ok (by simp; omega)) ?_
        | refine Hs.evb (qkey_err l _ _ he _) ?_
        | refine Hs.isF rfl ?_
        | refine Hs.isT rfl ?_
        | refine Hs.step (F := fun K => pmod_parser_decl_c0 K _ _ _ _ _ _ _ _) (fun k => by rw [pmod_parser_decl_c0]) ?_
    have sN := sN h1
    refine Hs.evb (nodeO ..) ?_
    by_cases j0 : keyS l (g1.2.1 : Int) [58] = true
    · rw [if_pos j0]
      have hin2 := key_in j0
      refine Hs.evb (qkey_t hl j0) ?_
      refine Hs.isT rfl ?_
      have b := ty_pz hl (i := g1.2.1 + 1) (by omega)
      have p := qtyp hl (i := g1.2.1 + 1) (by omega)
      generalize tyR l (g1.2.1 + 1) = g2 at *
      obtain ⟨g2a, g2b, g2c⟩ := b
      refine Hs.par p (fun h2 _ => ?_) (fun a _ he => ?_)
      rotate_left
      · repeat' first
          | exact Hs.pure ⟨rfl, rfl, rfl, fun h => absurd h he, nofun⟩
          | refine Hs.evb (qbexpr_err l _ _ he _) ?_
          | refine Hs.opt (appL_ok (by simp; omega)) ?_
          | refine Hs.step (F := fun K => pmod_parser_decl_c0 K _ _ _ _ _ _ _ _) (fun k => by rw [pmod_parser_decl_c0]) ?_
      have g2c := g2c h2
      refine Hs.opt (appL_ok (by simp)) ?_
      refine Hs.step (F := fun K => pmod_parser_decl_c0 K _ _ _ _ _ _ _ _) (fun k => by rw [pmod_parser_decl_c0]) ?_
      have b := kt_pz (s := [61]) (f := fun j => exR l j) (i := g2.2.1) (by omega) (fun j hj => ex_pz hl hj)
      have p := qbexpr hl [61] (i := g2.2.1) (by omega)
      generalize bhd .nil l [61] (fun j => exR l j) (g2.2.1) = g3 at *
      obtain ⟨g3a, g3b, g3c⟩ := b
      refine Hs.par p (fun h3 _ => ?_) (fun a _ he => ?_)
      rotate_left
      · repeat' first
          | exact Hs.pure ⟨rfl, rfl, rfl, fun h => absurd h he, nofun⟩
          | refine Hs.opt (appL_ok (by simp; omega)) ?_
      have g3c := g3c h3
      refine Hs.opt (appL_ok (by simp)) ?_
      exact Hs.pure ⟨rfl, rfl, rfl, fun _ => rfl, nofun⟩
    rw [if_neg j0]
    refine Hs.evb (qkey_f (by simpa using j0)) ?_
    refine Hs.isF rfl ?_
    refine Hs.step (F := fun K => pmod_parser_decl_c0 K _ _ _ _ _ _ _ _) (fun k => by rw [pmod_parser_decl_c0]) ?_
    have b := kt_pz (s := [61]) (f := fun j => exR l j) (i := g1.2.1) (by omega) (fun j hj => ex_pz hl hj)
    have p := qbexpr hl [61] (i := g1.2.1) (by omega)
    generalize bhd .nil l [61] (fun j => exR l j) (g1.2.1) = g2 at *
    obtain ⟨g2a, g2b, g2c⟩ := b
    refine Hs.par p (fun h2 _ => ?_) (fun a _ he => ?_)
    rotate_left
    · repeat' first
        | exact Hs.pure ⟨rfl, rfl, rfl, fun h => absurd h he, nofun⟩
        | refine Hs.opt (appL_ok (by simp; omega)) ?_
    have g2c := g2c h2
    refine Hs.opt (appL_ok (by simp)) ?_
    exact Hs.pure ⟨rfl, rfl, rfl, fun _ => rfl, nofun⟩
  rw [if_neg k0]
  refine Hs.evb (qkey_f (by simpa using k0)) ?_
  refine Hs.isF rfl ?_
  by_cases k1 : keyS l (i : Int) kType = true
  · rw [if_pos k1]
    have hin := key_in k1
    refine Hs.evb (qkey_t hl k1) ?_
    refine Hs.isT rfl ?_
    have b := bw_nm (l := l) (i := i + 1) (by omega)
    have sN := nm_at (l := l) (i := i + 1)
    have p := qname hl (i + 1)
    generalize nmR l (i + 1) = g1 at *
    obtain ⟨g1a, g1b⟩ := b
    refine Hs.par p (fun h1 _ => ?_) (fun a _ he => ?_)
    rotate_left
    · repeat' first
        | exact Hs.pure ⟨rfl, rfl, rfl, fun h => absurd h he, nofun⟩
        | refine Hs.evb (qbtyp_err l _ _ he _) ?_
        | refine Hs.evb (nodeM ..) ?_
    have sN := sN h1
    have b := kt_pz (s := [61]) (f := fun j => tyR l j) (i := g1.2.1) (by omega) (fun j hj => ty_pz hl hj)
    have p := qbtyp hl [61] (i := g1.2.1) (by omega)
    generalize bhd .nil l [61] (fun j => tyR l j) (g1.2.1) = g2 at *
    obtain ⟨g2a, g2b, g2c⟩ := b
    refine Hs.par p (fun h2 _ => ?_) (fun a _ he => ?_)
    rotate_left
    · repeat' first
        | exact Hs.pure ⟨rfl, rfl, rfl, fun h => absurd h he, nofun⟩
        | refine Hs.evb (nodeM ..) ?_
    have g2c := g2c h2
    exact Hs.evb (nodeM ..) (Hs.pure ⟨rfl, rfl, rfl, fun _ => rfl, nofun⟩)
  rw [if_neg k1]
  refine Hs.evb (qkey_f (by simpa using k1)) ?_
  refine Hs.isF rfl ?_
  by_cases k2 : keyS l (i : Int) kData = true
  · rw [if_pos k2]
    have hin := key_in k2
    refine Hs.evb (qkey_t hl k2) ?_
    refine Hs.isT rfl ?_
    have b := bw_nm (l := l) (i := i + 1) (by omega)
    have sN := nm_at (l := l) (i := i + 1)
    have p := qname hl (i + 1)
    generalize nmR l (i + 1) = g1 at *
    obtain ⟨g1a, g1b⟩ := b
    refine Hs.par p (fun h1 _ => ?_) (fun a _ he => ?_)
    rotate_left
    · repeat' first
        | exact Hs.pure ⟨rfl, rfl, rfl, fun h => absurd h he, nofun⟩
        | refine Hs.evb (qmust_err l _ _ he _ (by decide)) ?_
        | refine Hs.evb (qcons_err l _ _ he) ?_
        | refine Hs.evb (nodeM ..) ?_
    have sN := sN h1
    have b := bw_ks l [[61]] (g1.2.1) (by omega)
    have p := qmust hl [[61]] (by decide) (g1.2.1)
    generalize ks l [[61]] (g1.2.1) = g2 at *
    obtain ⟨g2a, g2b⟩ := b
    refine Hs.parU p (fun h2 => ?_) (fun he => ?_)
    rotate_left
    · repeat' first
        | exact Hs.pure ⟨rfl, rfl, rfl, fun h => absurd h he, nofun⟩
        | refine Hs.evb (qcons_err l _ _ he) ?_
        | refine Hs.evb (nodeM ..) ?_
    have b := cn_pq hl (i := g2.2.1) (by omega)
    have p := qcons hl (i := g2.2.1) (by omega)
    generalize cnR l (g2.2.1) = g3 at *
    obtain ⟨g3a, g3b, g3c⟩ := b
    refine Hs.par p (fun h3 _ => ?_) (fun a _ he => ?_)
    rotate_left
    · repeat' first
        | exact Hs.pure ⟨rfl, rfl, rfl, fun h => absurd h he, nofun⟩
        | refine Hs.evb (nodeM ..) ?_
    have g3c := g3c h3
    exact Hs.evb (nodeM ..) (Hs.pure ⟨rfl, rfl, rfl, fun _ => rfl, nofun⟩)
  rw [if_neg k2]
  refine Hs.evb (qkey_f (by simpa using k2)) ?_
  refine Hs.isF rfl ?_
  by_cases k3 : keyS l (i : Int) kStr = true
  · rw [if_pos k3]
    have hin := key_in k3
    refine Hs.evb (qkey_t hl k3) ?_
    refine Hs.isT rfl ?_
    have b := bw_nm (l := l) (i := i + 1) (by omega)
    have sN := nm_at (l := l) (i := i + 1)
    have p := qname hl (i + 1)
    generalize nmR l (i + 1) = g1 at *
    obtain ⟨g1a, g1b⟩ := b
    refine Hs.par p (fun h1 _ => ?_) (fun a _ he => ?_)
    rotate_left
    · repeat' first
        | exact Hs.pure ⟨rfl, rfl, rfl, fun h => absurd h he, nofun⟩
        | refine Hs.evb (qbmod_err l _ _ he _) ?_
        | refine Hs.evb (nodeM ..) ?_
    have sN := sN h1
    have b := kt_pz (s := [61]) (f := fun j => mMod l n j) (i := g1.2.1) (by omega) (fun j hj => mb_M hl hj)
    have p := qbmod hl ihM (s := [61]) (i := g1.2.1) (by omega) (by omega)
    generalize bhd .nil l [61] (fun j => mMod l n j) (g1.2.1) = g2 at *
    obtain ⟨g2a, g2b, g2c⟩ := b
    refine Hs.par p (fun h2 _ => ?_) (fun a _ he => ?_)
    rotate_left
    · repeat' first
        | exact Hs.pure ⟨rfl, rfl, rfl, fun h => absurd h he, nofun⟩
        | refine Hs.evb (nodeM ..) ?_
    have g2c := g2c h2
    exact Hs.evb (nodeM ..) (Hs.pure ⟨rfl, rfl, rfl, fun _ => rfl, nofun⟩)
  rw [if_neg k3]
  refine Hs.evb (qkey_f (by simpa using k3)) ?_
  refine Hs.isF rfl ?_
  by_cases k4 : keyS l (i : Int) kOpen = true
  · rw [if_pos k4]
    have hin := key_in k4
    refine Hs.evb (qkey_t hl k4) ?_
    refine Hs.isT rfl ?_
    have b := bw_lg (l := l) (i := i + 1) (by omega)
    have sN := lg_at (l := l) (i := i + 1)
    have p := qlong hl (i + 1)
    generalize lgR l (i + 1) = g1 at *
    obtain ⟨g1a, g1b⟩ := b
    refine Hs.par p (fun h1 _ => ?_) (fun a _ he => ?_)
    rotate_left
    · repeat' first
        | exact Hs.pure ⟨rfl, rfl, rfl, fun h => absurd h he, nofun⟩
        | refine Hs.evb (nodeO ..) ?_
    have sN := sN h1
    exact Hs.evb (nodeO ..) (Hs.pure ⟨rfl, rfl, rfl, fun _ => rfl, nofun⟩)
  rw [if_neg k4]
  refine Hs.evb (qkey_f (by simpa using k4)) ?_
  refine Hs.isF rfl ?_
  by_cases k5 : keyS l (i : Int) kInc = true
  · rw [if_pos k5]
    have hin := key_in k5
    refine Hs.evb (qkey_t hl k5) ?_
    refine Hs.isT rfl ?_
    have b := bw_lg (l := l) (i := i + 1) (by omega)
    have sN := lg_at (l := l) (i := i + 1)
    have p := qlong hl (i + 1)
    generalize lgR l (i + 1) = g1 at *
    obtain ⟨g1a, g1b⟩ := b
    refine Hs.par p (fun h1 _ => ?_) (fun a _ he => ?_)
    rotate_left
    · repeat' first
        | exact Hs.pure ⟨rfl, rfl, rfl, fun h => absurd h he, nofun⟩
        | refine Hs.evb (nodeO ..) ?_
    have sN := sN h1
    exact Hs.evb (nodeO ..) (Hs.pure ⟨rfl, rfl, rfl, fun _ => rfl, nofun⟩)
  rw [if_neg k5]
  refine Hs.evb (qkey_f (by simpa using k5)) ?_
  refine Hs.isF rfl ?_
  cases top with
  | false => exact absurd hb (by simp [begD, anyK, k0, k1, k2, k3, k4, k5])
  | true =>
  refine Hs.isT rfl ?_
  by_cases k6 : keyS l (i : Int) kSig = true
  · rw [if_pos ⟨rfl, k6⟩]
    have hin := key_in k6
    refine Hs.evb (qkey_t hl k6) ?_
    refine Hs.isT rfl ?_
    have b := bw_nm (l := l) (i := i + 1) (by omega)
    have sN := nm_at (l := l) (i := i + 1)
    have p := qname hl (i + 1)
    generalize nmR l (i + 1) = g1 at *
    obtain ⟨g1a, g1b⟩ := b
    refine Hs.par p (fun h1 _ => ?_) (fun a _ he => ?_)
    rotate_left
    · repeat' first
        | exact Hs.pure ⟨rfl, rfl, rfl, fun h => absurd h he, nofun⟩
        | refine Hs.evb (qbsig_err l _ _ he _) ?_
        | refine Hs.evb (nodeM ..) ?_
    have sN := sN h1
    have b := kt_pz (s := [61]) (f := fun j => mSig l n j) (i := g1.2.1) (by omega) (fun j hj => mb_S hl hj)
    have p := qbsig hl ihS (s := [61]) (i := g1.2.1) (by omega) (by omega)
    generalize bhd .nil l [61] (fun j => mSig l n j) (g1.2.1) = g2 at *
    obtain ⟨g2a, g2b, g2c⟩ := b
    refine Hs.par p (fun h2 _ => ?_) (fun a _ he => ?_)
    rotate_left
    · repeat' first
        | exact Hs.pure ⟨rfl, rfl, rfl, fun h => absurd h he, nofun⟩
        | refine Hs.evb (nodeM ..) ?_
    have g2c := g2c h2
    exact Hs.evb (nodeM ..) (Hs.pure ⟨rfl, rfl, rfl, fun _ => rfl, nofun⟩)
  rw [if_neg (fun h => k6 h.2)]
  refine Hs.evb (qkey_f (by simpa using k6)) ?_
  refine Hs.isF rfl ?_
  by_cases k7 : keyS l (i : Int) kFun = true
  · rw [if_pos ⟨rfl, k7⟩]
    have hin := key_in k7
    refine Hs.evb (qkey_t hl k7) ?_
    refine Hs.isT rfl ?_
    have b := bw_nm (l := l) (i := i + 1) (by omega)
    have sN := nm_at (l := l) (i := i + 1)
    have p := qname hl (i + 1)
    generalize nmR l (i + 1) = g1 at *
    obtain ⟨g1a, g1b⟩ := b
    refine Hs.par p (fun h1 _ => ?_) (fun a _ he => ?_)
    rotate_left
    · repeat' first
        | exact Hs.pure ⟨rfl, rfl, rfl, fun h => absurd h he, nofun⟩
        | refine Hs.evb (qmust_err l _ _ he _ (by decide)) ?_
        | refine Hs.evb (qname_err l _ _ he) ?_
        | refine Hs.evb (qbsig_err l _ _ he _) ?_
        | refine Hs.evb (qbmod_err l _ _ he _) ?_
        | refine Hs.evb (nodeO ..) ?_
        | refine Hs.step (F := fun K => pmod_parser_decl_c1 K _ _ _ _ _ _ _) (fun k => by rw [pmod_parser_decl_c1]) ?_
    have sN := sN h1
    refine Hs.evb (nodeO ..) ?_
    refine Hs.step (F := fun K => pmod_parser_decl_c1 K _ _ _ _ _ _ _) (fun k => by rw [pmod_parser_decl_c1]) ?_
    have b := bw_ks l [[40]] (g1.2.1) (by omega)
    have p := qmust hl [[40]] (by decide) (g1.2.1)
    generalize ks l [[40]] (g1.2.1) = g2 at *
    obtain ⟨g2a, g2b⟩ := b
    refine Hs.parU p (fun h2 => ?_) (fun he => ?_)
    rotate_left
    · repeat' first
        | exact Hs.pure ⟨rfl, rfl, rfl, fun h => absurd h he, nofun⟩
        | refine Hs.evb (qmust_err l _ _ he _ (by decide)) ?_
        | refine Hs.evb (qname_err l _ _ he) ?_
        | refine Hs.evb (qbsig_err l _ _ he _) ?_
        | refine Hs.evb (qbmod_err l _ _ he _) ?_
    have b := bw_nm (l := l) (i := g2.2.1) (by omega)
    have sN := nm_at (l := l) (i := g2.2.1)
    have p := qname hl (g2.2.1)
    generalize nmR l (g2.2.1) = g3 at *
    obtain ⟨g3a, g3b⟩ := b
    refine Hs.par p (fun h3 _ => ?_) (fun a _ he => ?_)
    rotate_left
    · repeat' first
        | exact Hs.pure ⟨rfl, rfl, rfl, fun h => absurd h he, nofun⟩
        | refine Hs.evb (qmust_err l _ _ he _ (by decide)) ?_
        | refine Hs.evb (qbsig_err l _ _ he _) ?_
        | refine Hs.evb (qbmod_err l _ _ he _) ?_
    have sN := sN h3
    have b := kt_pz (s := [58]) (f := fun j => mSig l n j) (i := g3.2.1) (by omega) (fun j hj => mb_S hl hj)
    have p := qbsig hl ihS (s := [58]) (i := g3.2.1) (by omega) (by omega)
    generalize bhd .nil l [58] (fun j => mSig l n j) (g3.2.1) = g4 at *
    obtain ⟨g4a, g4b, g4c⟩ := b
    refine Hs.par p (fun h4 _ => ?_) (fun a _ he => ?_)
    rotate_left
    · repeat' first
        | exact Hs.pure ⟨rfl, rfl, rfl, fun h => absurd h he, nofun⟩
        | refine Hs.evb (qmust_err l _ _ he _ (by decide)) ?_
        | refine Hs.evb (qbmod_err l _ _ he _) ?_
    have g4c := g4c h4
    have b := bw_ks l [[41]] (g4.2.1) (by omega)
    have p := qmust hl [[41]] (by decide) (g4.2.1)
    generalize ks l [[41]] (g4.2.1) = g5 at *
    obtain ⟨g5a, g5b⟩ := b
    refine Hs.parU p (fun h5 => ?_) (fun he => ?_)
    rotate_left
    · repeat' first
        | exact Hs.pure ⟨rfl, rfl, rfl, fun h => absurd h he, nofun⟩
        | refine Hs.evb (qbmod_err l _ _ he _) ?_
    have b := kt_pz (s := [61]) (f := fun j => mMod l n j) (i := g5.2.1) (by omega) (fun j hj => mb_M hl hj)
    have p := qbmod hl ihM (s := [61]) (i := g5.2.1) (by omega) (by omega)
    generalize bhd .nil l [61] (fun j => mMod l n j) (g5.2.1) = g6 at *
    obtain ⟨g6a, g6b, g6c⟩ := b
    refine Hs.par p (fun h6 _ => ?_) (fun a _ he => ?_)
    rotate_left
    · exact Hs.pure ⟨rfl, rfl, rfl, fun h => absurd h he, nofun⟩
    have g6c := g6c h6
    exact Hs.pure ⟨rfl, rfl, rfl, fun _ => rfl, nofun⟩
  rw [if_neg (fun h => k7 h.2)]
  refine Hs.evb (qkey_f (by simpa using k7)) ?_
  refine Hs.isF rfl ?_
  exact absurd hb (by simp [begD, anyK, k0, k1, k2, k3, k4, k5, k6, k7])
/-- the program's parser of modules, whole -/
theorem pm_all : ∀ n, IX l n 2 pmod_parser_mod (mMod l n) ∧ IL l n pmod_parser_mod_l0 (mModL l n) ∧ IX l n 1 pmod_parser_prim (mPrim l n) ∧ IX l n 2 pmod_parser_sig (mSig l n) ∧ IL l n pmod_parser_sig_l0 (mSigL l n) ∧ IX l n 1 pmod_parser_body (mBody l n) ∧
    IS l n ∧ IP l n ∧ ID l n ∧ IE l n := by
  intro n
  induction n with
  | zero => exact ⟨ix_zero (by decide), il_zero, ix_zero (by decide), ix_zero (by decide), il_zero, ix_zero (by decide), fun j _ h => by omega, fun j _ h => by omega, fun j _ h => by omega, fun j _ h => by omega⟩
  | succ n ih =>
    obtain ⟨i1, i2, i3, i4, i5, i6, i7, i8, i9, i10⟩ := ih
    exact ⟨pm_mod hl i3 i2, pm_modl hl i4 i2, pm_prim hl i1 i9, pm_sig hl i6 i5, pm_sigl hl i5, pm_body hl i7, pm_specs hl i8 i7, pm_spec hl i4, pm_decls hl i10 i9, pm_decl hl i4 i1⟩
end
end Go.Proofs.YtnogkihchgnbcaaGreatDoor

/- The program's parser of modules, at any place. -/
namespace Go.Proofs.YtnogkihchgnbcaaGreatDoor
open Go Go.Am Go.Sx
/-- the answer of a parser of lists: none behind an error -/
def ansL (g : LT) : List Tr × Int × Int := (if g.2.2 = 0 then g.1 else [], ((g.2.1 : Nat) : Int), g.2.2)
section
variable {l : List Token} (hl : l.length ≤ 20000)
include hl
theorem mbeg_ok {i : Int} (h : 0 ≤ i ∧ i ≤ (l.length : Int)) : Ev (fun K => pmod_begin K l i) (l, i, 0) := by
  have := hl
  refine Ev.congr (f := fun K => _) ?_ (fun k => by rw [pmod_begin])
  exact Ev.dF (by omega) (Ev.dF (by omega) Ev.pure)
theorem decls_p {n i : Nat} {top : Bool} (hi : i ≤ l.length) (hn : 8 * (l.length - i) + 2 ≤ n) : Ev (fun K => pmod_Decls K l (i : Int) top) (ansL (mDecls l n top [] i)) := by
  obtain ⟨⟨a, l', i', e'⟩, h1, h2, h3, h4, h5, _⟩ := qdecls ((pm_all hl n).2.2.2.2.2.2.2.2.1 i hi hn top [] (by simp))
  simp only at h2 h3 h4 h5
  subst h2 h3 h4
  refine Ev.congr (f := fun K => _) ?_ (fun k => by rw [pmod_Decls])
  refine Ev.bind (mbeg_ok hl (by omega)) ?_
  refine Ev.bind h1 ?_
  unfold ansL
  refine Ev.n (fun he => Ev.pure' (by rw [if_neg he])) (fun he => Ev.pure' (by rw [if_pos he, he, h5 he]))
end
end Go.Proofs.YtnogkihchgnbcaaGreatDoor

