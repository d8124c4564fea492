/- Joined texts: Y4, Y5p, Y5c. -/
import Derived.Test.YtnogkihchgnbcaaGreatDoorGy
/- The document's parser of expressions comes to the same plain functions. Printed by gen7/y4.py. -/
namespace Go.Proofs.YtnogkihchgnbcaaGreatDoor
open Go Go.Am Go.Sx
/-- what a step of the document's comes to, held against the plain function's answer -/
def QR {α : Type} (T : α → Prop) (r : α × Nat × Int) (x : α × Int × Int) : Prop := x.2.1 = ((r.2.1 : Nat) : Int) ∧ x.2.2 = r.2.2 ∧ (r.2.2 = 0 → x.1 = r.1) ∧ T x.1
theorem Hs.parR {α β : Type} {S : α → Prop} {T : β → Prop} {f : Nat → Option (α × Int × Int)} {g : α × Int × Int → Nat → Option (β × Int × Int)} {r : α × Nat × Int} {d : β} {h : α → Nat → β × Nat × Int}
    (hf : Hs f (QR S r)) (ok : r.2.2 = 0 → S r.1 → Hs (g (r.1, ((r.2.1 : Nat) : Int), 0)) (QR T (h r.1 r.2.1))) (no : ∀ a, S a → r.2.2 ≠ 0 → Hs (g (a, ((r.2.1 : Nat) : Int), r.2.2)) (QR T (d, r.2.1, r.2.2))) : Hs (fun K => (f K).bind fun x => g x K) (QR T (bnd d r h)) := by
  obtain ⟨⟨a, i', e'⟩, h1, h3, h4, h5, h6⟩ := hf
  simp only at h3 h4 h5 h6
  subst h3 h4
  unfold bnd
  by_cases he : r.2.2 = 0
  · rw [if_pos he]
    have e := h5 he
    subst e
    rw [he] at h1
    exact Hs.evb h1 (ok he h6)
  · rw [if_neg he]
    exact Hs.evb h1 (no a h6 he)
theorem Hs.parRU {β : Type} {T : β → Prop} {f : Nat → Option (Int × Int)} {g : Int × Int → Nat → Option (β × Int × Int)} {r : Unit × Nat × Int} {d : β} {h : Unit → Nat → β × Nat × Int}
    (hf : Ev f (((r.2.1 : Nat) : Int), r.2.2)) (ok : r.2.2 = 0 → Hs (g (((r.2.1 : Nat) : Int), 0)) (QR T (h r.1 r.2.1))) (no : r.2.2 ≠ 0 → Hs (g (((r.2.1 : Nat) : Int), r.2.2)) (QR T (d, r.2.1, r.2.2))) : Hs (fun K => (f K).bind fun x => g x K) (QR T (bnd d r h)) := by
  unfold bnd
  by_cases he : r.2.2 = 0
  · rw [if_pos he]
    rw [he] at hf
    exact Hs.evb hf (ok he)
  · rw [if_neg he]
    exact Hs.evb hf (no he)
/-- something, and words behind it -/
def two {α : Type} (d : α) (l : List Token) (t : List (List UInt8)) (r : α × Nat × Int) : α × Nat × Int := bnd d r fun a j => bnd d (ks l t j) fun _ j => (a, j, 0)
theorem Hs.parT {α β : Type} {l : List Token} {t : List (List UInt8)} {S : α → Prop} {T : β → Prop} {f : Nat → Option (α × Int × Int)} {g : α × Int × Int → Nat → Option (β × Int × Int)} {r : α × Nat × Int} {d' : α} {d : β} {h : α → Nat → β × Nat × Int}
    (hf : Hs f (QR S (two d' l t r))) (ok : r.2.2 = 0 → (ks l t r.2.1).2.2 = 0 → Hs (g (r.1, (((ks l t r.2.1).2.1 : Nat) : Int), 0)) (QR T (h r.1 (ks l t r.2.1).2.1))) (no : ∀ a (j : Nat) e, e ≠ 0 → Hs (g (a, ((j : Nat) : Int), e)) (QR T (d, j, e))) :
    Hs (fun K => (f K).bind fun x => g x K) (QR T (bnd d r fun a j => bnd d (ks l t j) fun _ j => h a j)) := by
  have e : (bnd d r fun a j => bnd d (ks l t j) fun _ j => h a j) = bnd d (two d' l t r) h := by
    by_cases he : r.2.2 = 0
    · by_cases hk : (ks l t r.2.1).2.2 = 0
      · simp [two, bnd, he, hk]
      · simp [two, bnd, he, hk]
    · simp [two, bnd, he]
  rw [e]
  refine Hs.parR hf (fun h0 _ => ?_) (fun a _ he => no a _ _ he)
  by_cases he : r.2.2 = 0
  · by_cases hk : (ks l t r.2.1).2.2 = 0
    · have e2 : two d' l t r = (r.1, (ks l t r.2.1).2.1, 0) := by simp [two, bnd, he, hk]
      rw [e2]
      exact ok he hk
    · exact absurd h0 (by simp [two, bnd, he, hk])
  · exact absurd h0 (by simp [two, bnd, he])
theorem opR (c : Int) (a b : Tr) : Ev (fun K => ref07_op K c a b) (opN c a b) := ⟨0, fun _ _ => rfl⟩
/-- a function of the document's at all places, with fuel enough for the plain function -/
def JX (l : List Token) (n c : Nat) (f : Nat → List Token → Int → Option (Tr × Int × Int)) (g : Nat → RT) : Prop := ∀ j, j ≤ l.length → 8 * (l.length - j) + c ≤ n → Hs (fun K => f K l (j : Int)) (QR TT (g j))
def JL (l : List Token) (n : Nat) (f : Nat → List Token → Int → Tr → Int → Option (Tr × Int × Int)) (g : Tr → Nat → RT) : Prop := ∀ j, j ≤ l.length → 8 * (l.length - j) + 2 ≤ n → ∀ a, Hs (fun K => f K l (j : Int) a 0) (QR TT (g a j))
def JA (l : List Token) (n : Nat) : Prop := ∀ j, j ≤ l.length → 8 * (l.length - j) + 1 ≤ n → ∀ out, out.length ≤ j → Hs (fun K => ref07_arms_l0 K l (j : Int) out) (QR (fun a => a.length ≤ 2000) (eArms l n out j))
theorem pr_arms1 {l : List Token} {i : Int} {Q : List Tr × Int × Int → Prop} (h : Hs (fun K => ref07_arms_l0 K l i []) Q) : Hs (fun K => ref07_arms K l i) Q :=
  Hs.step (fun k => by rw [ref07_arms]) h
section
variable {l : List Token} (hl : l.length ≤ 1000)
include hl
theorem rKeysl (t : List (List UInt8)) (ht : t.length ≤ 1000) : ∀ (m j i : Nat), t.length = j + m → i ≤ l.length → Ev (fun K => ref07_Keys_l0 K l (i : Int) t (j : Int)) ((((ks l (t.drop j) i).2.1 : Nat) : Int), (ks l (t.drop j) i).2.2) := by
  intro m
  induction m with
  | zero =>
    intro j i hj hi
    rw [List.drop_of_length_le (by omega), ks]
    exact Ev.step (fun k => by rw [ref07_Keys_l0]) (Ev.dF (by omega) Ev.pure)
  | succ m ih =>
    intro j i hj hi
    have hlt : j < t.length := by omega
    rw [drop_get hlt, ks]
    refine Ev.step (fun k => by rw [ref07_Keys_l0]) ?_
    refine Ev.dT (by omega) ?_
    refine Ev.opt (getI_lt hlt) ?_
    refine Ev.bind (ev_rKey l _ _) ?_
    by_cases hk : keyS l (i : Int) t[j] = true
    · have hin := key_in hk
      rw [if_pos hk]
      refine Ev.isF (by rw [hk]; rfl) ?_
      rw [wrap_nat (by omega), wrap_nat (by omega)]
      exact ih (j + 1) (i + 1) (by omega) (by omega)
    · rw [if_neg hk]
      exact Ev.isT (by simpa using hk) Ev.pure
theorem rKeys (t : List (List UInt8)) (ht : t.length ≤ 1000) (i : Nat) (hi : i ≤ l.length) : Ev (fun K => ref07_Keys K l (i : Int) t) ((((ks l t i).2.1 : Nat) : Int), (ks l t i).2.2) := by
  refine Ev.congr (f := fun K => _) ?_ (fun k => by rw [ref07_Keys])
  exact rKeysl hl t ht t.length 0 i (by omega) hi
theorem rStarts {i : Nat} (hi : i ≤ l.length) : Ev (fun K => ref07_Starts K l (i : Int)) (stS l i) := by
  have := hl
  refine Ev.congr (f := fun K => _) ?_ (fun k => by rw [ref07_Starts])
  by_cases hlt : i < l.length
  · obtain ⟨k, _, hg, hk⟩ := tok_some (l := l) (i := (i : Int)) (by omega)
    have hlong : longS l (i : Int) = if k.1 = 1 ∧ lgS k.2.1 = true then (k.2.1, true) else ([], false) := by unfold longS; rw [hk]
    have hst : stS l i = if k.1 = 3 then decide (k.2.1 = [116, 114, 117, 101]) || (decide (k.2.1 = [102, 97, 108, 115, 101]) || (decide (k.2.1 = [40]) || (decide (k.2.1 = [35, 49]) || decide (k.2.1 = [35, 50]))))
      else if k.1 = 2 then decide (-1073741824 ≤ k.2.2.1) && decide (k.2.2.1 ≤ 1073741824) else decide (k.1 = 1) && lgS k.2.1 := by unfold stS; rw [hk]
    rw [hst]
    refine Ev.dF (by omega) ?_
    refine Ev.opt hg ?_
    refine Ev.d (fun h3 => ?_) (fun h3 => ?_)
    · rw [if_pos h3]
      refine Ev.d (fun e => Ev.pure' (by rw [decide_eq_true e, Bool.true_or])) (fun e => ?_)
      rw [decide_eq_false e, Bool.false_or]
      refine Ev.d (fun e => Ev.pure' (by rw [decide_eq_true e, Bool.true_or])) (fun e => ?_)
      rw [decide_eq_false e, Bool.false_or]
      refine Ev.d (fun e => Ev.pure' (by rw [decide_eq_true e, Bool.true_or])) (fun e => ?_)
      rw [decide_eq_false e, Bool.false_or]
      refine Ev.d (fun e => Ev.pure' (by rw [decide_eq_true e, Bool.true_or])) (fun e => ?_)
      rw [decide_eq_false e, Bool.false_or]
      exact Ev.pure
    · rw [if_neg h3]
      refine Ev.d (fun h2 => ?_) (fun h2 => ?_)
      · rw [if_pos h2]
        exact Ev.d (fun e => Ev.pure' (by rw [decide_eq_true e, Bool.true_and])) (fun e => Ev.pure' (by rw [decide_eq_false e, Bool.false_and]))
      · rw [if_neg h2]
        have r := ev_rLong l (i : Int)
        rw [hlong] at r
        by_cases h1 : k.1 = 1
        · rw [decide_eq_true h1, Bool.true_and]
          cases hx : lgS k.2.1 with
          | true => rw [if_pos ⟨h1, hx⟩] at r; exact Ev.bind r Ev.pure
          | false => rw [if_neg (by rw [hx]; simp)] at r; exact Ev.bind r Ev.pure
        · rw [if_neg (fun h => h1 h.1)] at r
          rw [decide_eq_false h1, Bool.false_and]
          exact Ev.bind r Ev.pure
  · refine Ev.dT (by omega) (Ev.pure' ?_)
    cases hx : stS l i with
    | false => rfl
    | true => exact absurd (st_in hx) hlt
variable (hT : ∀ k ∈ l, k.2.1.length ≤ 1099511627776)
include hT
theorem rname (t : List (List UInt8)) (ht : t.length ≤ 1000) {i : Nat} (hi : i ≤ l.length) : Hs (fun K => ref07_name K l (i : Int) t) (QR (fun _ => True) (two [] l t (nmR l i))) := by
  refine Hs.congr (f := fun K => _) ?_ (fun k => by rw [ref07_name])
  refine Hs.evb (ev_rName hT i) ?_
  unfold nmR
  have hin := name_in (l := l) (i := (i : Int))
  generalize nameS l (i : Int) = N at *
  obtain ⟨s, b⟩ := N
  cases b with
  | false =>
    refine Hs.isT rfl ?_
    have e : two [] l t (([] : List UInt8), i, (6 : Int)) = ([], i, 6) := by simp [two, bnd]
    show Hs _ (QR _ (two [] l t ([], i, 6)))
    rw [e]
    exact Hs.pure ⟨rfl, rfl, fun h => absurd (show (6 : Int) = 0 from h) (by decide), trivial⟩
  | true =>
    have hin := hin rfl
    refine Hs.isF rfl ?_
    simp only [if_true]
    rw [wr1 (by omega)]
    unfold two
    rw [bnd_ok]
    refine Hs.parRU (rKeys hl t ht (i + 1) (by omega)) (fun _ => ?_) (fun he => ?_)
    · exact Hs.pure ⟨rfl, rfl, fun _ => rfl, trivial⟩
    · exact Hs.pure ⟨rfl, rfl, fun h => absurd h he, trivial⟩
theorem ev_rtype {i : Nat} (hi : i ≤ l.length) : Ev (fun K => ref06_Type K l (i : Int)) (if (tyR l i).2.2 = 0 then (tyR l i).1 else .nil, (((tyR l i).2.1 : Nat) : Int), (tyR l i).2.2) := by
  obtain ⟨t, j, er, h1, h2, _⟩ := type_at hl hT (i : Int)
  rwa [Ev.unique h1 (ev_ptype hl hi)] at h2
theorem rtyp (t : List (List UInt8)) (ht : t.length ≤ 1000) {i : Nat} (hi : i ≤ l.length) : Hs (fun K => ref07_typ K l (i : Int) t) (QR TT (two .nil l t (tyR l i))) := by
  refine Hs.congr (f := fun K => _) ?_ (fun k => by rw [ref07_typ])
  refine Hs.evb (ev_rtype hl hT hi) ?_
  have b := ty_pz hl hi
  generalize tyR l i = g at *
  obtain ⟨a, j, e⟩ := g
  simp only at b ⊢
  by_cases he : e = 0
  · subst he
    refine Hs.n (fun h => absurd rfl h) (fun _ => ?_)
    unfold two
    rw [bnd_ok, if_pos rfl]
    refine Hs.parRU (rKeys hl t ht j b.2.1) (fun _ => ?_) (fun he => ?_)
    · exact Hs.pure ⟨rfl, rfl, fun _ => rfl, trivial⟩
    · exact Hs.pure ⟨rfl, rfl, fun h => absurd h he, trivial⟩
  · refine Hs.n (fun _ => ?_) (fun h => absurd h he)
    unfold two
    rw [bnd_no he]
    exact Hs.pure ⟨rfl, rfl, fun h => absurd h he, trivial⟩
omit hT in
theorem rsub {n : Nat} (ihE : JX l n 6 ref07_expr (eExpr l n)) (t : List (List UInt8)) (ht : t.length ≤ 1000) (i : Nat) (hi : i ≤ l.length) (hn : 8 * (l.length - i) + 6 ≤ n) : Hs (fun K => ref07_sub K l (i : Int) t) (QR TT (two .nil l t (eExpr l n i))) := by
  refine Hs.step (fun k => by rw [ref07_sub]) ?_
  have b := e_bd_eExpr hl n i hi
  have p := ihE i hi hn
  generalize eExpr l n i = g at *
  unfold two
  refine Hs.parR p (fun _ _ => ?_) (fun a _ he => ?_)
  · refine Hs.n (fun h => absurd rfl h) (fun _ => ?_)
    refine Hs.parRU (rKeys hl t ht g.2.1 b.2.1) (fun _ => ?_) (fun he => ?_)
    · exact Hs.pure ⟨rfl, rfl, fun _ => rfl, trivial⟩
    · exact Hs.pure ⟨rfl, rfl, fun h => absurd h he, trivial⟩
  · refine Hs.n (fun _ => ?_) (fun h => absurd h he)
    exact Hs.pure ⟨rfl, rfl, fun h => absurd h he, trivial⟩
variable {n : Nat}
theorem pr_expr (ihE : JX l n 6 ref07_expr (eExpr l n)) (ihA : JA l n) (ihC : JX l n 5 ref07_cmp (eCmp l n)) : JX l (n + 1) 6 ref07_expr (eExpr l (n + 1)) := by
  intro i hi hn
  have ihB := rsub hl ihE
  rw [eExpr]
  refine Hs.step (fun k => by rw [ref07_expr]) ?_
  refine Hs.evb (ev_rKey l _ _) ?_
  by_cases k_fn : keyS l (i : Int) [102, 110] = true
  · rw [if_pos k_fn]
    have hin := key_in k_fn
    refine Hs.isT k_fn ?_
    rw [wr1 (by omega)]
    refine Hs.congr (f := fun K => ref07_lam K l ((i + 1 : Nat) : Int)) ?_ (fun K => by cases ref07_lam K l ((i + 1 : Nat) : Int) <;> rfl)
    refine Hs.step (fun k => by rw [ref07_lam]) ?_
    have b := bw_ks l [[40]] (i + 1) (by omega)
    have p := rKeys hl [[40]] (by decide) (i + 1) (by omega)
    generalize ks l [[40]] (i + 1) = g1 at *
    obtain ⟨g1a, g1b⟩ := b
    refine Hs.parRU p (fun h1 => ?_) (fun he => ?_)
    rotate_left
    · repeat' first
        | exact Hs.pure ⟨rfl, rfl, fun h => absurd h he, trivial⟩
        | refine Hs.n (fun _ => ?_) (fun h => absurd h he)
        | refine Hs.d (fun h => absurd h he) (fun _ => ?_)
        | refine Hs.evb (nodeR ..) ?_
    refine Hs.n (fun h => absurd rfl h) (fun _ => ?_)
    have b := bw_nm (l := l) (i := g1.2.1) (by omega)
    have sN := nm_at (l := l) (i := g1.2.1)
    have p := rname hl hT [[58]] (by decide) (i := g1.2.1) (by omega)
    generalize nmR l (g1.2.1) = g2 at *
    obtain ⟨g2a, g2b⟩ := b
    refine Hs.parT p (fun h2 k2 => ?_) (fun a j e he => ?_)
    rotate_left
    · repeat' first
        | exact Hs.pure ⟨rfl, rfl, fun h => absurd h he, trivial⟩
        | refine Hs.n (fun _ => ?_) (fun h => absurd h he)
        | refine Hs.d (fun h => absurd h he) (fun _ => ?_)
        | refine Hs.evb (nodeR ..) ?_
    have sN := sN h2
    have b := bw_ks l [[58]] g2.2.1 (by omega)
    generalize ks l [[58]] g2.2.1 = g3 at *
    obtain ⟨g3a, g3b⟩ := b
    refine Hs.n (fun h => absurd rfl h) (fun _ => ?_)
    have b := ty_pz hl (i := g3.2.1) (by omega)
    have p := rtyp hl hT [[41], [61, 62]] (by decide) (i := g3.2.1) (by omega)
    generalize tyR l (g3.2.1) = g4 at *
    obtain ⟨g4a, g4b, g4c⟩ := b
    refine Hs.parT p (fun h4 k4 => ?_) (fun a j e he => ?_)
    rotate_left
    · repeat' first
        | exact Hs.pure ⟨rfl, rfl, fun h => absurd h he, trivial⟩
        | refine Hs.n (fun _ => ?_) (fun h => absurd h he)
        | refine Hs.d (fun h => absurd h he) (fun _ => ?_)
        | refine Hs.evb (nodeR ..) ?_
    have g4c := g4c h4
    have b := bw_ks l [[41], [61, 62]] g4.2.1 (by omega)
    generalize ks l [[41], [61, 62]] g4.2.1 = g5 at *
    obtain ⟨g5a, g5b⟩ := b
    refine Hs.n (fun h => absurd rfl h) (fun _ => ?_)
    refine Hs.step (F := fun K => ref07_lam_c0 K _ _ _ _) (fun k => by rw [ref07_lam_c0]) ?_
    have b := e_bd_eExpr hl n (g5.2.1) (by omega)
    have p := ihE (g5.2.1) (by omega) (by omega)
    generalize eExpr l n (g5.2.1) = g6 at *
    obtain ⟨g6a, g6b, g6c⟩ := b
    refine Hs.parR p (fun h6 _ => ?_) (fun a _ he => ?_)
    rotate_left
    · repeat' first
        | exact Hs.pure ⟨rfl, rfl, fun h => absurd h he, trivial⟩
        | refine Hs.n (fun _ => ?_) (fun h => absurd h he)
        | refine Hs.d (fun h => absurd h he) (fun _ => ?_)
        | refine Hs.evb (nodeR ..) ?_
    have g6c := g6c h6
    exact Hs.evb (nodeR ..) (Hs.pure ⟨rfl, rfl, fun _ => rfl, trivial⟩)
  rw [if_neg k_fn]
  refine Hs.isF (by simpa using k_fn) ?_
  refine Hs.evb (ev_rKey l _ _) ?_
  by_cases k_let : keyS l (i : Int) [108, 101, 116] = true
  · rw [if_pos k_let]
    have hin := key_in k_let
    refine Hs.isT k_let ?_
    rw [wr1 (by omega)]
    have b := bw_nm (l := l) (i := i + 1) (by omega)
    have sN := nm_at (l := l) (i := i + 1)
    have p := rname hl hT [[61]] (by decide) (i := i + 1) (by omega)
    generalize nmR l (i + 1) = g1 at *
    obtain ⟨g1a, g1b⟩ := b
    refine Hs.parT p (fun h1 k1 => ?_) (fun a j e he => ?_)
    rotate_left
    · repeat' first
        | exact Hs.pure ⟨rfl, rfl, fun h => absurd h he, trivial⟩
        | refine Hs.n (fun _ => ?_) (fun h => absurd h he)
        | refine Hs.d (fun h => absurd h he) (fun _ => ?_)
        | refine Hs.evb (nodeR ..) ?_
        | refine Hs.step (F := fun K => ref07_expr_c0 K _ _ _ _ _) (fun k => by rw [ref07_expr_c0]) ?_
    have sN := sN h1
    have b := bw_ks l [[61]] g1.2.1 (by omega)
    generalize ks l [[61]] g1.2.1 = g2 at *
    obtain ⟨g2a, g2b⟩ := b
    refine Hs.n (fun h => absurd rfl h) (fun _ => ?_)
    have b := e_bd_eExpr hl n (g2.2.1) (by omega)
    have p := ihB [[105, 110]] (by decide) (g2.2.1) (by omega) (by omega)
    generalize eExpr l n (g2.2.1) = g3 at *
    obtain ⟨g3a, g3b, g3c⟩ := b
    refine Hs.parT p (fun h3 k3 => ?_) (fun a j e he => ?_)
    rotate_left
    · repeat' first
        | exact Hs.pure ⟨rfl, rfl, fun h => absurd h he, trivial⟩
        | refine Hs.n (fun _ => ?_) (fun h => absurd h he)
        | refine Hs.d (fun h => absurd h he) (fun _ => ?_)
        | refine Hs.evb (nodeR ..) ?_
        | refine Hs.step (F := fun K => ref07_expr_c0 K _ _ _ _ _) (fun k => by rw [ref07_expr_c0]) ?_
    have g3c := g3c h3
    have b := bw_ks l [[105, 110]] g3.2.1 (by omega)
    generalize ks l [[105, 110]] g3.2.1 = g4 at *
    obtain ⟨g4a, g4b⟩ := b
    refine Hs.step (F := fun K => ref07_expr_c0 K _ _ _ _ _) (fun k => by rw [ref07_expr_c0]) ?_
    refine Hs.n (fun h => absurd rfl h) (fun _ => ?_)
    have b := e_bd_eExpr hl n (g4.2.1) (by omega)
    have p := ihB [[101, 110, 100]] (by decide) (g4.2.1) (by omega) (by omega)
    generalize eExpr l n (g4.2.1) = g5 at *
    obtain ⟨g5a, g5b, g5c⟩ := b
    refine Hs.parT p (fun h5 k5 => ?_) (fun a j e he => ?_)
    rotate_left
    · repeat' first
        | exact Hs.pure ⟨rfl, rfl, fun h => absurd h he, trivial⟩
        | refine Hs.n (fun _ => ?_) (fun h => absurd h he)
        | refine Hs.d (fun h => absurd h he) (fun _ => ?_)
        | refine Hs.evb (nodeR ..) ?_
        | refine Hs.step (F := fun K => ref07_expr_c0 K _ _ _ _ _) (fun k => by rw [ref07_expr_c0]) ?_
    have g5c := g5c h5
    have b := bw_ks l [[101, 110, 100]] g5.2.1 (by omega)
    generalize ks l [[101, 110, 100]] g5.2.1 = g6 at *
    obtain ⟨g6a, g6b⟩ := b
    exact Hs.evb (nodeR ..) (Hs.pure ⟨rfl, rfl, fun _ => rfl, trivial⟩)
  rw [if_neg k_let]
  refine Hs.isF (by simpa using k_let) ?_
  refine Hs.evb (ev_rKey l _ _) ?_
  by_cases k_if : keyS l (i : Int) [105, 102] = true
  · rw [if_pos k_if]
    have hin := key_in k_if
    refine Hs.isT k_if ?_
    rw [wr1 (by omega)]
    have b := e_bd_eExpr hl n (i + 1) (by omega)
    have p := ihB [[116, 104, 101, 110]] (by decide) (i + 1) (by omega) (by omega)
    generalize eExpr l n (i + 1) = g1 at *
    obtain ⟨g1a, g1b, g1c⟩ := b
    refine Hs.parT p (fun h1 k1 => ?_) (fun a j e he => ?_)
    rotate_left
    · repeat' first
        | exact Hs.pure ⟨rfl, rfl, fun h => absurd h he, trivial⟩
        | refine Hs.n (fun _ => ?_) (fun h => absurd h he)
        | refine Hs.d (fun h => absurd h he) (fun _ => ?_)
        | refine Hs.evb (nodeR ..) ?_
    have g1c := g1c h1
    have b := bw_ks l [[116, 104, 101, 110]] g1.2.1 (by omega)
    generalize ks l [[116, 104, 101, 110]] g1.2.1 = g2 at *
    obtain ⟨g2a, g2b⟩ := b
    refine Hs.n (fun h => absurd rfl h) (fun _ => ?_)
    refine Hs.step (F := fun K => ref07_expr_c1 K _ _ _) (fun k => by rw [ref07_expr_c1]) ?_
    have b := e_bd_eExpr hl n (g2.2.1) (by omega)
    have p := ihB [[101, 108, 115, 101]] (by decide) (g2.2.1) (by omega) (by omega)
    generalize eExpr l n (g2.2.1) = g3 at *
    obtain ⟨g3a, g3b, g3c⟩ := b
    refine Hs.parT p (fun h3 k3 => ?_) (fun a j e he => ?_)
    rotate_left
    · repeat' first
        | exact Hs.pure ⟨rfl, rfl, fun h => absurd h he, trivial⟩
        | refine Hs.n (fun _ => ?_) (fun h => absurd h he)
        | refine Hs.d (fun h => absurd h he) (fun _ => ?_)
        | refine Hs.evb (nodeR ..) ?_
    have g3c := g3c h3
    have b := bw_ks l [[101, 108, 115, 101]] g3.2.1 (by omega)
    generalize ks l [[101, 108, 115, 101]] g3.2.1 = g4 at *
    obtain ⟨g4a, g4b⟩ := b
    refine Hs.n (fun h => absurd rfl h) (fun _ => ?_)
    have b := e_bd_eExpr hl n (g4.2.1) (by omega)
    have p := ihE (g4.2.1) (by omega) (by omega)
    generalize eExpr l n (g4.2.1) = g5 at *
    obtain ⟨g5a, g5b, g5c⟩ := b
    refine Hs.parR p (fun h5 _ => ?_) (fun a _ he => ?_)
    rotate_left
    · repeat' first
        | exact Hs.pure ⟨rfl, rfl, fun h => absurd h he, trivial⟩
        | refine Hs.n (fun _ => ?_) (fun h => absurd h he)
        | refine Hs.d (fun h => absurd h he) (fun _ => ?_)
        | refine Hs.evb (nodeR ..) ?_
    have g5c := g5c h5
    exact Hs.evb (nodeR ..) (Hs.pure ⟨rfl, rfl, fun _ => rfl, trivial⟩)
  rw [if_neg k_if]
  refine Hs.isF (by simpa using k_if) ?_
  refine Hs.evb (ev_rKey l _ _) ?_
  by_cases k_case : keyS l (i : Int) [99, 97, 115, 101] = true
  · rw [if_pos k_case]
    have hin := key_in k_case
    refine Hs.isT k_case ?_
    rw [wr1 (by omega)]
    have b := e_bd_eExpr hl n (i + 1) (by omega)
    have p := ihB [[111, 102]] (by decide) (i + 1) (by omega) (by omega)
    generalize eExpr l n (i + 1) = g1 at *
    obtain ⟨g1a, g1b, g1c⟩ := b
    refine Hs.parT p (fun h1 k1 => ?_) (fun a j e he => ?_)
    rotate_left
    · repeat' first
        | exact Hs.pure ⟨rfl, rfl, fun h => absurd h he, trivial⟩
        | refine Hs.n (fun _ => ?_) (fun h => absurd h he)
        | refine Hs.d (fun h => absurd h he) (fun _ => ?_)
        | refine Hs.evb (nodeR ..) ?_
        | refine Hs.opt (appL_ok (by simp; omega)) ?_
        | refine Hs.step (F := fun K => ref07_expr_c2 K _ _ _ _) (fun k => by rw [ref07_expr_c2]) ?_
    have g1c := g1c h1
    have b := bw_ks l [[111, 102]] g1.2.1 (by omega)
    generalize ks l [[111, 102]] g1.2.1 = g2 at *
    obtain ⟨g2a, g2b⟩ := b
    refine Hs.step (F := fun K => ref07_expr_c2 K _ _ _ _) (fun k => by rw [ref07_expr_c2]) ?_
    refine Hs.n (fun h => absurd rfl h) (fun _ => ?_)
    have b := e_bd_eArms hl n [] (g2.2.1) (by omega)
    have p := pr_arms1 (ihA (g2.2.1) (by omega) (by omega) [] (by simp))
    generalize eArms l n [] (g2.2.1) = g3 at *
    obtain ⟨g3a, g3b, g3c⟩ := b
    refine Hs.parR p (fun h3 hs => ?_) (fun a hs he => ?_)
    rotate_left
    · repeat' first
        | exact Hs.pure ⟨rfl, rfl, fun h => absurd h he, trivial⟩
        | refine Hs.n (fun _ => ?_) (fun h => absurd h he)
        | refine Hs.d (fun h => absurd h he) (fun _ => ?_)
        | refine Hs.evb (nodeR ..) ?_
        | refine Hs.opt (appL_ok (by simp; omega)) ?_
        | refine Hs.step (F := fun K => ref07_expr_c2 K _ _ _ _) (fun k => by rw [ref07_expr_c2]) ?_
    refine Hs.opt (appL_ok (by simp; omega)) ?_
    exact Hs.evb (nodeR ..) (Hs.pure ⟨rfl, rfl, fun _ => rfl, trivial⟩)
  rw [if_neg k_case]
  refine Hs.isF (by simpa using k_case) ?_
  refine Hs.evb (ev_rKey l _ _) ?_
  by_cases k_fold : keyS l (i : Int) [102, 111, 108, 100] = true
  · rw [if_pos k_fold]
    have hin := key_in k_fold
    refine Hs.isT k_fold ?_
    rw [wr1 (by omega)]
    have b := e_bd_eExpr hl n (i + 1) (by omega)
    have p := ihB [[116, 111]] (by decide) (i + 1) (by omega) (by omega)
    generalize eExpr l n (i + 1) = g1 at *
    obtain ⟨g1a, g1b, g1c⟩ := b
    refine Hs.parT p (fun h1 k1 => ?_) (fun a j e he => ?_)
    rotate_left
    · repeat' first
        | exact Hs.pure ⟨rfl, rfl, fun h => absurd h he, trivial⟩
        | refine Hs.n (fun _ => ?_) (fun h => absurd h he)
        | refine Hs.d (fun h => absurd h he) (fun _ => ?_)
        | refine Hs.evb (nodeR ..) ?_
        | refine Hs.opt (appL_ok (by simp; omega)) ?_
        | refine Hs.step (F := fun K => ref07_expr_c3 K _ _ _ _) (fun k => by rw [ref07_expr_c3]) ?_
    have g1c := g1c h1
    have b := bw_ks l [[116, 111]] g1.2.1 (by omega)
    generalize ks l [[116, 111]] g1.2.1 = g2 at *
    obtain ⟨g2a, g2b⟩ := b
    refine Hs.step (F := fun K => ref07_expr_c3 K _ _ _ _) (fun k => by rw [ref07_expr_c3]) ?_
    refine Hs.n (fun h => absurd rfl h) (fun _ => ?_)
    have b := ty_pz hl (i := g2.2.1) (by omega)
    have p := rtyp hl hT [[111, 102]] (by decide) (i := g2.2.1) (by omega)
    generalize tyR l (g2.2.1) = g3 at *
    obtain ⟨g3a, g3b, g3c⟩ := b
    refine Hs.parT p (fun h3 k3 => ?_) (fun a j e he => ?_)
    rotate_left
    · repeat' first
        | exact Hs.pure ⟨rfl, rfl, fun h => absurd h he, trivial⟩
        | refine Hs.n (fun _ => ?_) (fun h => absurd h he)
        | refine Hs.d (fun h => absurd h he) (fun _ => ?_)
        | refine Hs.evb (nodeR ..) ?_
        | refine Hs.opt (appL_ok (by simp; omega)) ?_
        | refine Hs.step (F := fun K => ref07_expr_c3 K _ _ _ _) (fun k => by rw [ref07_expr_c3]) ?_
    have g3c := g3c h3
    have b := bw_ks l [[111, 102]] g3.2.1 (by omega)
    generalize ks l [[111, 102]] g3.2.1 = g4 at *
    obtain ⟨g4a, g4b⟩ := b
    refine Hs.n (fun h => absurd rfl h) (fun _ => ?_)
    have b := e_bd_eArms hl n [] (g4.2.1) (by omega)
    have p := pr_arms1 (ihA (g4.2.1) (by omega) (by omega) [] (by simp))
    generalize eArms l n [] (g4.2.1) = g5 at *
    obtain ⟨g5a, g5b, g5c⟩ := b
    refine Hs.parR p (fun h5 hs => ?_) (fun a hs he => ?_)
    rotate_left
    · repeat' first
        | exact Hs.pure ⟨rfl, rfl, fun h => absurd h he, trivial⟩
        | refine Hs.n (fun _ => ?_) (fun h => absurd h he)
        | refine Hs.d (fun h => absurd h he) (fun _ => ?_)
        | refine Hs.evb (nodeR ..) ?_
        | refine Hs.opt (appL_ok (by simp; omega)) ?_
        | refine Hs.step (F := fun K => ref07_expr_c3 K _ _ _ _) (fun k => by rw [ref07_expr_c3]) ?_
    refine Hs.opt (appL_ok (by simp; omega)) ?_
    exact Hs.evb (nodeR ..) (Hs.pure ⟨rfl, rfl, fun _ => rfl, trivial⟩)
  rw [if_neg k_fold]
  refine Hs.isF (by simpa using k_fold) ?_
  obtain ⟨v, h1, h2⟩ := ihC i hi (by omega)
  obtain ⟨a, i', e'⟩ := v
  exact Hs.evb h1 (Hs.pure h2)
theorem pr_arms (ihE : JX l n 6 ref07_expr (eExpr l n)) (ihA : JA l n) : JA l (n + 1) := by
  intro i hi hn out ho
  rw [eArms]
  refine Hs.step (fun k => by rw [ref07_arms_l0]) ?_
  have b := bw_nm (l := l) (i := i) (by omega)
  have sN := nm_at (l := l) (i := i)
  have sN0 : (two [] l [] (nmR l i)).2.2 = 0 → (nmR l i).2.2 = 0 := by
    by_cases he : (nmR l i).2.2 = 0
    · exact fun _ => he
    · simp [two, bnd, he]
  have p := rname hl hT [] (by decide) (i := i) (by omega)
  generalize nmR l i = g1 at *
  obtain ⟨g1a, g1b⟩ := b
  have e0 : ∀ F : List UInt8 → Nat → List Tr × Nat × Int, bnd [] g1 F = bnd [] (two [] l [] g1) F := fun F => by
    by_cases he : g1.2.2 = 0
    · simp [two, bnd, ks, he]
    · simp [two, bnd, ks, he]
  have e1 : (two [] l [] g1).2.1 = g1.2.1 := by
    by_cases he : g1.2.2 = 0
    · simp [two, bnd, ks, he]
    · simp [two, bnd, ks, he]
  rw [e0]
  generalize two [] l [] g1 = g0 at *
  refine Hs.parR p (fun h1 _ => ?_) (fun a _ he => ?_)
  rotate_left
  · repeat' first
      | exact Hs.pure ⟨rfl, rfl, fun h => absurd h he, by simp⟩
      | refine Hs.n (fun _ => ?_) (fun h => absurd h he)
      | refine Hs.d (fun h => absurd h he) (fun _ => ?_)
      | refine Hs.evb (nodeR ..) ?_
      | refine Hs.evb (opR ..) ?_
      | refine Hs.opt (appL_ok (by simp; omega)) ?_
      | refine Hs.step (F := fun K => ref07_expr_c0 K _ _ _ _ _) (fun k => by rw [ref07_expr_c0]) ?_
      | refine Hs.step (F := fun K => ref07_expr_c2 K _ _ _ _) (fun k => by rw [ref07_expr_c2]) ?_
      | refine Hs.step (F := fun K => ref07_expr_c3 K _ _ _ _) (fun k => by rw [ref07_expr_c3]) ?_
      | refine Hs.step (F := fun K => ref07_atom_c1 K _ _ _ _) (fun k => by rw [ref07_atom_c1]) ?_
      | refine Hs.step (F := fun K => ref07_sum_l0 K _ _ _ _) (fun k => by rw [ref07_sum_l0]) ?_
      | refine Hs.step (F := fun K => ref07_term_l0 K _ _ _ _) (fun k => by rw [ref07_term_l0]) ?_
      | refine Hs.step (F := fun K => ref07_app_l0 K _ _ _ _) (fun k => by rw [ref07_app_l0]) ?_
  have sN := sN (sN0 h1)
  refine Hs.n (fun h => absurd rfl h) (fun _ => ?_)
  have b := bw_nm (l := l) (i := g0.2.1) (by omega)
  have sN := nm_at (l := l) (i := g0.2.1)
  have p := rname hl hT [[61, 62]] (by decide) (i := g0.2.1) (by omega)
  generalize nmR l (g0.2.1) = g2 at *
  obtain ⟨g2a, g2b⟩ := b
  refine Hs.parT p (fun h2 k2 => ?_) (fun a j e he => ?_)
  rotate_left
  · repeat' first
      | exact Hs.pure ⟨rfl, rfl, fun h => absurd h he, by simp⟩
      | refine Hs.n (fun _ => ?_) (fun h => absurd h he)
      | refine Hs.d (fun h => absurd h he) (fun _ => ?_)
  have sN := sN h2
  have b := bw_ks l [[61, 62]] g2.2.1 (by omega)
  generalize ks l [[61, 62]] g2.2.1 = g3 at *
  obtain ⟨g3a, g3b⟩ := b
  refine Hs.n (fun h => absurd rfl h) (fun _ => ?_)
  have b := e_bd_eExpr hl n (g3.2.1) (by omega)
  have p := ihE (g3.2.1) (by omega) (by omega)
  generalize eExpr l n (g3.2.1) = g4 at *
  obtain ⟨g4a, g4b, g4c⟩ := b
  refine Hs.parR p (fun h4 _ => ?_) (fun a _ he => ?_)
  rotate_left
  · repeat' first
      | exact Hs.pure ⟨rfl, rfl, fun h => absurd h he, by simp⟩
      | refine Hs.n (fun _ => ?_) (fun h => absurd h he)
      | refine Hs.d (fun h => absurd h he) (fun _ => ?_)
  have g4c := g4c h4
  refine Hs.n (fun h => absurd rfl h) (fun _ => ?_)
  refine Hs.step (F := fun K => ref07_arms_c0 K _ _ _ _ _ _) (fun k => by rw [ref07_arms_c0]) ?_
  refine Hs.opt (appL_ok (by simp; omega)) ?_
  refine Hs.evb (ev_rKey l _ _) ?_
  by_cases kb : keyS l (g4.2.1 : Int) [124] = true
  · rw [if_pos kb]
    have hin := key_in kb
    refine Hs.isF (by rw [kb]; rfl) ?_
    rw [wr1 (by omega)]
    exact ihA (g4.2.1 + 1) (by omega) (by omega) _ (by simp; omega)
  · rw [if_neg kb]
    refine Hs.isT (by simpa using kb) ?_
    have b := bw_ks l [[101, 110, 100]] (g4.2.1) (by omega)
    have p := rKeys hl [[101, 110, 100]] (by decide) (g4.2.1) (by omega)
    generalize ks l [[101, 110, 100]] (g4.2.1) = g5 at *
    obtain ⟨g5a, g5b⟩ := b
    refine Hs.parRU p (fun h5 => ?_) (fun he => ?_)
    rotate_left
    · repeat' first
        | exact Hs.pure ⟨rfl, rfl, fun h => absurd h he, by simp; omega⟩
        | refine Hs.n (fun _ => ?_) (fun h => absurd h he)
        | refine Hs.d (fun h => absurd h he) (fun _ => ?_)
    exact Hs.pure ⟨rfl, rfl, fun _ => rfl, by simp; omega⟩
omit hT in
theorem pr_cmp (ihS : JX l n 4 ref07_sum (eSum l n)) : JX l (n + 1) 5 ref07_cmp (eCmp l (n + 1)) := by
  intro i hi hn
  rw [eCmp]
  refine Hs.step (fun k => by rw [ref07_cmp]) ?_
  have b := e_bd_eSum hl n (i) (by omega)
  have p := ihS (i) (by omega) (by omega)
  generalize eSum l n (i) = g1 at *
  obtain ⟨g1a, g1b, g1c⟩ := b
  refine Hs.parR p (fun h1 _ => ?_) (fun a _ he => ?_)
  rotate_left
  · repeat' first
      | exact Hs.pure ⟨rfl, rfl, fun h => absurd h he, trivial⟩
      | refine Hs.n (fun _ => ?_) (fun h => absurd h he)
      | refine Hs.d (fun h => absurd h he) (fun _ => ?_)
  have g1c := g1c h1
  refine Hs.n (fun h => absurd rfl h) (fun _ => ?_)
  have last : ∀ op : Int, op ≠ 0 → g1.2.1 < l.length → Hs (fun K => ref07_cmp_c1 K l (g1.2.1 : Int) g1.1 op) (QR TT (bnd .nil (eSum l n (g1.2.1 + 1)) fun b i => (opN op g1.1 b, i, 0))) := by
    intro op hop hlt
    refine Hs.step (F := fun K => ref07_cmp_c1 K _ _ _ _) (fun k => by rw [ref07_cmp_c1]) ?_
    refine Hs.d (fun h => absurd h hop) (fun _ => ?_)
    rw [wr1 (by omega)]
    have b := e_bd_eSum hl n (g1.2.1 + 1) (by omega)
    have p := ihS (g1.2.1 + 1) (by omega) (by omega)
    generalize eSum l n (g1.2.1 + 1) = g2 at *
    obtain ⟨g2a, g2b, g2c⟩ := b
    refine Hs.parR p (fun h2 _ => ?_) (fun a _ he => ?_)
    rotate_left
    · repeat' first
        | exact Hs.pure ⟨rfl, rfl, fun h => absurd h he, trivial⟩
        | refine Hs.n (fun _ => ?_) (fun h => absurd h he)
        | refine Hs.d (fun h => absurd h he) (fun _ => ?_)
        | refine Hs.evb (opR ..) ?_
    have g2c := g2c h2
    exact Hs.evb (opR ..) (Hs.pure ⟨rfl, rfl, fun _ => rfl, trivial⟩)
  refine Hs.evb (ev_rKey l _ _) ?_
  by_cases k4 : keyS l (g1.2.1 : Int) [61] = true
  · rw [if_pos k4]
    have hin := key_in k4
    refine Hs.isT k4 ?_
    refine Hs.step (F := fun K => ref07_cmp_c0 K _ _ _ _) (fun k => by rw [ref07_cmp_c0]) ?_
    refine Hs.evb (ev_rKey l _ _) ?_
    refine Hs.isF ?_ (last 4 (by decide) (by omega))
    unfold keyS at k4 ⊢
    cases hk : tokAt l (g1.2.1 : Int) with
    | none => rfl
    | some k =>
      rw [hk] at k4
      simp only [Bool.and_eq_true, decide_eq_true_eq] at k4 ⊢
      rw [k4.2]; simp
  rw [if_neg k4]
  refine Hs.isF (by simpa using k4) ?_
  refine Hs.step (F := fun K => ref07_cmp_c0 K _ _ _ _) (fun k => by rw [ref07_cmp_c0]) ?_
  refine Hs.evb (ev_rKey l _ _) ?_
  by_cases k5 : keyS l (g1.2.1 : Int) [60] = true
  · rw [if_pos k5]
    have hin := key_in k5
    exact Hs.isT k5 (last 5 (by decide) (by omega))
  rw [if_neg k5]
  refine Hs.isF (by simpa using k5) ?_
  refine Hs.step (F := fun K => ref07_cmp_c1 K _ _ _ _) (fun k => by rw [ref07_cmp_c1]) ?_
  refine Hs.d (fun _ => ?_) (fun h => absurd rfl h)
  exact Hs.pure ⟨rfl, rfl, fun _ => rfl, trivial⟩
omit hT in
theorem pr_sum (ihT : JX l n 3 ref07_term (eTerm l n)) (ihL : JL l n ref07_sum_l0 (eSumL l n)) : JX l (n + 1) 4 ref07_sum (eSum l (n + 1)) := by
  intro i hi hn
  rw [eSum]
  refine Hs.step (fun k => by rw [ref07_sum]) ?_
  have b := e_bd_eTerm hl n (i) (by omega)
  have p := ihT (i) (by omega) (by omega)
  generalize eTerm l n (i) = g1 at *
  obtain ⟨g1a, g1b, g1c⟩ := b
  refine Hs.parR p (fun h1 _ => ?_) (fun a _ he => ?_)
  rotate_left
  · repeat' first
      | exact Hs.pure ⟨rfl, rfl, fun h => absurd h he, trivial⟩
      | refine Hs.n (fun _ => ?_) (fun h => absurd h he)
      | refine Hs.d (fun h => absurd h he) (fun _ => ?_)
      | refine Hs.step (F := fun K => ref07_sum_l0 K _ _ _ _) (fun k => by rw [ref07_sum_l0]) ?_
  have g1c := g1c h1
  exact ihL g1.2.1 (by omega) (by omega) _
omit hT in
theorem pr_suml (ihT : JX l n 3 ref07_term (eTerm l n)) (ihL : JL l n ref07_sum_l0 (eSumL l n)) : JL l (n + 1) ref07_sum_l0 (eSumL l (n + 1)) := by
  intro i hi hn a
  rw [eSumL]
  refine Hs.step (F := fun K => ref07_sum_l0 K _ _ _ _) (fun k => by rw [ref07_sum_l0]) ?_
  refine Hs.d (fun _ => ?_) (fun h => absurd rfl h)
  have last : ∀ op : Int, i < l.length → Hs (fun K => ref07_sum_c0 K l (i : Int) a op) (QR TT (bnd .nil (eTerm l n (i + 1)) fun b i => eSumL l n (opN op a b) i)) := by
    intro op hlt
    refine Hs.step (F := fun K => ref07_sum_c0 K _ _ _ _) (fun k => by rw [ref07_sum_c0]) ?_
    rw [wr1 (by omega)]
    have b := e_bd_eTerm hl n (i + 1) (by omega)
    have p := ihT (i + 1) (by omega) (by omega)
    generalize eTerm l n (i + 1) = g1 at *
    obtain ⟨g1a, g1b, g1c⟩ := b
    refine Hs.parR p (fun h1 _ => ?_) (fun a _ he => ?_)
    rotate_left
    · repeat' first
        | exact Hs.pure ⟨rfl, rfl, fun h => absurd h he, trivial⟩
        | refine Hs.n (fun _ => ?_) (fun h => absurd h he)
        | refine Hs.d (fun h => absurd h he) (fun _ => ?_)
        | refine Hs.evb (opR ..) ?_
        | refine Hs.step (F := fun K => ref07_sum_l0 K _ _ _ _) (fun k => by rw [ref07_sum_l0]) ?_
    have g1c := g1c h1
    refine Hs.evb (opR ..) ?_
    exact ihL g1.2.1 (by omega) (by omega) _
  refine Hs.evb (ev_rKey l _ _) ?_
  by_cases k0 : keyS l (i : Int) [43] = true
  · rw [if_pos k0]
    have hin := key_in k0
    refine Hs.isT k0 ?_
    refine Hs.evb (ev_rKey l _ _) ?_
    refine Hs.isF ?_ (last 1 (by omega))
    unfold keyS at k0 ⊢
    cases hk : tokAt l (i : Int) with
    | none => rfl
    | some k =>
      rw [hk] at k0
      simp only [Bool.and_eq_true, decide_eq_true_eq] at k0 ⊢
      rw [k0.2]; simp
  rw [if_neg k0]
  refine Hs.isF (by simpa using k0) ?_
  refine Hs.evb (ev_rKey l _ _) ?_
  by_cases k1 : keyS l (i : Int) [45] = true
  · rw [if_pos k1]
    have hin := key_in k1
    refine Hs.isT k1 ?_
    refine Hs.evb (ev_rKey l _ _) ?_
    exact Hs.isT k1 (last 2 (by omega))
  rw [if_neg k1]
  refine Hs.isF (by simpa using k1) ?_
  exact Hs.pure ⟨rfl, rfl, fun _ => rfl, trivial⟩
omit hT in
theorem pr_term (ihP : JX l n 2 ref07_app (eApp l n)) (ihL : JL l n ref07_term_l0 (eTermL l n)) : JX l (n + 1) 3 ref07_term (eTerm l (n + 1)) := by
  intro i hi hn
  rw [eTerm]
  refine Hs.step (fun k => by rw [ref07_term]) ?_
  have b := e_bd_eApp hl n (i) (by omega)
  have p := ihP (i) (by omega) (by omega)
  generalize eApp l n (i) = g1 at *
  obtain ⟨g1a, g1b, g1c⟩ := b
  refine Hs.parR p (fun h1 _ => ?_) (fun a _ he => ?_)
  rotate_left
  · repeat' first
      | exact Hs.pure ⟨rfl, rfl, fun h => absurd h he, trivial⟩
      | refine Hs.n (fun _ => ?_) (fun h => absurd h he)
      | refine Hs.d (fun h => absurd h he) (fun _ => ?_)
      | refine Hs.step (F := fun K => ref07_term_l0 K _ _ _ _) (fun k => by rw [ref07_term_l0]) ?_
  have g1c := g1c h1
  exact ihL g1.2.1 (by omega) (by omega) _
omit hT in
theorem pr_terml (ihP : JX l n 2 ref07_app (eApp l n)) (ihL : JL l n ref07_term_l0 (eTermL l n)) : JL l (n + 1) ref07_term_l0 (eTermL l (n + 1)) := by
  intro i hi hn a
  rw [eTermL]
  refine Hs.step (F := fun K => ref07_term_l0 K _ _ _ _) (fun k => by rw [ref07_term_l0]) ?_
  refine Hs.d (fun _ => ?_) (fun h => absurd rfl h)
  refine Hs.evb (ev_rKey l _ _) ?_
  by_cases k0 : keyS l (i : Int) [42] = true
  · rw [if_pos k0]
    have hin := key_in k0
    refine Hs.isT k0 ?_
    rw [wr1 (by omega)]
    have b := e_bd_eApp hl n (i + 1) (by omega)
    have p := ihP (i + 1) (by omega) (by omega)
    generalize eApp l n (i + 1) = g1 at *
    obtain ⟨g1a, g1b, g1c⟩ := b
    refine Hs.parR p (fun h1 _ => ?_) (fun a _ he => ?_)
    rotate_left
    · repeat' first
        | exact Hs.pure ⟨rfl, rfl, fun h => absurd h he, trivial⟩
        | refine Hs.n (fun _ => ?_) (fun h => absurd h he)
        | refine Hs.d (fun h => absurd h he) (fun _ => ?_)
        | refine Hs.evb (opR ..) ?_
        | refine Hs.step (F := fun K => ref07_term_l0 K _ _ _ _) (fun k => by rw [ref07_term_l0]) ?_
    have g1c := g1c h1
    refine Hs.evb (opR ..) ?_
    exact ihL g1.2.1 (by omega) (by omega) _
  rw [if_neg k0]
  refine Hs.isF (by simpa using k0) ?_
  exact Hs.pure ⟨rfl, rfl, fun _ => rfl, trivial⟩
omit hT in
theorem pr_app (ihO : JX l n 1 ref07_atom (eAtom l n)) (ihL : JL l n ref07_app_l0 (eAppL l n)) : JX l (n + 1) 2 ref07_app (eApp l (n + 1)) := by
  intro i hi hn
  rw [eApp]
  refine Hs.step (fun k => by rw [ref07_app]) ?_
  have b := e_bd_eAtom hl n (i) (by omega)
  have p := ihO (i) (by omega) (by omega)
  generalize eAtom l n (i) = g1 at *
  obtain ⟨g1a, g1b, g1c⟩ := b
  refine Hs.parR p (fun h1 _ => ?_) (fun a _ he => ?_)
  rotate_left
  · repeat' first
      | exact Hs.pure ⟨rfl, rfl, fun h => absurd h he, trivial⟩
      | refine Hs.n (fun _ => ?_) (fun h => absurd h he)
      | refine Hs.d (fun h => absurd h he) (fun _ => ?_)
      | refine Hs.step (F := fun K => ref07_app_l0 K _ _ _ _) (fun k => by rw [ref07_app_l0]) ?_
  have g1c := g1c h1
  exact ihL g1.2.1 (by omega) (by omega) _
omit hT in
theorem pr_appl (ihO : JX l n 1 ref07_atom (eAtom l n)) (ihL : JL l n ref07_app_l0 (eAppL l n)) : JL l (n + 1) ref07_app_l0 (eAppL l (n + 1)) := by
  intro i hi hn a
  rw [eAppL]
  refine Hs.step (F := fun K => ref07_app_l0 K _ _ _ _) (fun k => by rw [ref07_app_l0]) ?_
  refine Hs.d (fun _ => ?_) (fun h => absurd rfl h)
  refine Hs.evb (rStarts hl hi) ?_
  by_cases k0 : stS l i = true
  · rw [if_pos k0]
    have hin := st_in k0
    refine Hs.isT k0 ?_
    have b := e_bd_eAtom hl n (i) (by omega)
    have p := ihO (i) (by omega) (by omega)
    generalize eAtom l n (i) = g1 at *
    obtain ⟨g1a, g1b, g1c⟩ := b
    refine Hs.parR p (fun h1 _ => ?_) (fun a _ he => ?_)
    rotate_left
    · repeat' first
        | exact Hs.pure ⟨rfl, rfl, fun h => absurd h he, trivial⟩
        | refine Hs.n (fun _ => ?_) (fun h => absurd h he)
        | refine Hs.d (fun h => absurd h he) (fun _ => ?_)
        | refine Hs.evb (nodeR ..) ?_
        | refine Hs.step (F := fun K => ref07_app_l0 K _ _ _ _) (fun k => by rw [ref07_app_l0]) ?_
    have g1c := g1c h1
    refine Hs.evb (nodeR ..) ?_
    exact ihL g1.2.1 (by omega) (by omega) _
  rw [if_neg k0]
  refine Hs.isF (by simpa using k0) ?_
  exact Hs.pure ⟨rfl, rfl, fun _ => rfl, trivial⟩
omit hT in
theorem pr_atom (ihO : JX l n 1 ref07_atom (eAtom l n)) (ihE : JX l n 6 ref07_expr (eExpr l n)) : JX l (n + 1) 1 ref07_atom (eAtom l (n + 1)) := by
  intro i hi hn
  have ihB := rsub hl ihE
  rw [eAtom]
  refine Hs.step (fun k => by rw [ref07_atom]) ?_
  refine Hs.evb (rStarts hl hi) ?_
  by_cases k0 : stS l i = true
  · rw [if_pos k0]
    have hin := st_in k0
    have hw := wr1 (i := i) (by omega)
    have hw2 := wr2 (i := i) (by omega)
    refine Hs.isF (by rw [k0]; rfl) ?_
    obtain ⟨k, _, hg, hk⟩ := tok_some (l := l) (i := (i : Int)) (by omega)
    rw [hk]
    refine Hs.opt hg ?_
    simp only
    refine Hs.d (fun c => ?_) (fun c0 => ?_)
    · rw [if_pos c]; exact Hs.pure ⟨hw, rfl, fun _ => rfl, trivial⟩
    rw [if_neg c0]
    refine Hs.d (fun c => ?_) (fun c1 => ?_)
    · rw [if_pos c]; exact Hs.evb (nodeR ..) (Hs.pure ⟨hw, rfl, fun _ => rfl, trivial⟩)
    rw [if_neg c1]
    refine Hs.d (fun c => ?_) (fun c2 => ?_)
    · rw [if_pos c]; exact Hs.pure ⟨hw, rfl, fun _ => rfl, trivial⟩
    rw [if_neg c2]
    refine Hs.d (fun c => ?_) (fun c3 => ?_)
    · rw [if_pos c]; exact Hs.evb (nodeR ..) (Hs.pure ⟨hw, rfl, fun _ => rfl, trivial⟩)
    rw [if_neg c3]
    refine Hs.step (F := fun K => ref07_atom_c0 K _ _ _ _ _ _) (fun k => by rw [ref07_atom_c0]) ?_
    rw [hw]
    refine Hs.d (fun c => ?_) (fun c4 => ?_)
    · rw [if_pos c]
      have b := e_bd_eAtom hl n (i + 1) (by omega)
      have p := ihO (i + 1) (by omega) (by omega)
      generalize eAtom l n (i + 1) = g1 at *
      obtain ⟨g1a, g1b, g1c⟩ := b
      refine Hs.parR p (fun h1 _ => ?_) (fun a _ he => ?_)
      rotate_left
      · refine Hs.d (fun h => absurd (c.symm.trans h) (by decide)) (fun _ => ?_)
        repeat' first
          | exact Hs.pure ⟨rfl, rfl, fun h => absurd h he, trivial⟩
          | refine Hs.n (fun _ => ?_) (fun h => absurd h he)
          | refine Hs.d (fun h => absurd h he) (fun _ => ?_)
          | refine Hs.evb (nodeR ..) ?_
          | refine Hs.step (F := fun K => ref07_atom_c1 K _ _ _ _) (fun k => by rw [ref07_atom_c1]) ?_
      have g1c := g1c h1
      refine Hs.d (fun h => absurd (c.symm.trans h) (by decide)) (fun _ => ?_)
      refine Hs.step (F := fun K => ref07_atom_c1 K _ _ _ _) (fun k => by rw [ref07_atom_c1]) ?_
      exact Hs.evb (nodeR ..) (Hs.pure ⟨rfl, rfl, fun _ => rfl, trivial⟩)
    rw [if_neg c4]
    refine Hs.d (fun c => ?_) (fun c5 => ?_)
    · rw [if_pos c]
      have b := e_bd_eAtom hl n (i + 1) (by omega)
      have p := ihO (i + 1) (by omega) (by omega)
      generalize eAtom l n (i + 1) = g1 at *
      obtain ⟨g1a, g1b, g1c⟩ := b
      refine Hs.parR p (fun h1 _ => ?_) (fun a _ he => ?_)
      rotate_left
      · refine Hs.d (fun _ => ?_) (fun h => absurd c h)
        repeat' first
          | exact Hs.pure ⟨rfl, rfl, fun h => absurd h he, trivial⟩
          | refine Hs.n (fun _ => ?_) (fun h => absurd h he)
          | refine Hs.d (fun h => absurd h he) (fun _ => ?_)
          | refine Hs.evb (nodeR ..) ?_
          | refine Hs.step (F := fun K => ref07_atom_c1 K _ _ _ _) (fun k => by rw [ref07_atom_c1]) ?_
      have g1c := g1c h1
      refine Hs.d (fun _ => ?_) (fun h => absurd c h)
      refine Hs.step (F := fun K => ref07_atom_c1 K _ _ _ _) (fun k => by rw [ref07_atom_c1]) ?_
      exact Hs.evb (nodeR ..) (Hs.pure ⟨rfl, rfl, fun _ => rfl, trivial⟩)
    rw [if_neg c5]
    refine Hs.evb (ev_rKey l _ _) ?_
    by_cases k1 : keyS l ((i + 1 : Nat) : Int) [41] = true
    · rw [if_pos k1]
      have hin := key_in k1
      refine Hs.isT k1 ?_
      exact Hs.evb (nodeR ..) (Hs.pure ⟨hw2, rfl, fun _ => rfl, trivial⟩)
    rw [if_neg k1]
    refine Hs.isF (by simpa using k1) ?_
    have b := e_bd_eExpr hl n (i + 1) (by omega)
    have p := ihE (i + 1) (by omega) (by omega)
    generalize eExpr l n (i + 1) = g1 at *
    obtain ⟨g1a, g1b, g1c⟩ := b
    refine Hs.parR p (fun h1 _ => ?_) (fun a _ he => ?_)
    rotate_left
    · repeat' first
        | exact Hs.pure ⟨rfl, rfl, fun h => absurd h he, trivial⟩
        | refine Hs.n (fun _ => ?_) (fun h => absurd h he)
        | refine Hs.d (fun h => absurd h he) (fun _ => ?_)
    have g1c := g1c h1
    refine Hs.n (fun h => absurd rfl h) (fun _ => ?_)
    refine Hs.evb (ev_rKey l _ _) ?_
    by_cases k2 : keyS l (g1.2.1 : Int) [44] = true
    · rw [if_pos k2]
      have hin := key_in k2
      refine Hs.isT k2 ?_
      rw [wr1 (by omega)]
      have b := e_bd_eExpr hl n (g1.2.1 + 1) (by omega)
      have p := ihB [[41]] (by decide) (g1.2.1 + 1) (by omega) (by omega)
      generalize eExpr l n (g1.2.1 + 1) = g2 at *
      obtain ⟨g2a, g2b, g2c⟩ := b
      refine Hs.parT p (fun h2 k2 => ?_) (fun a j e he => ?_)
      rotate_left
      · repeat' first
          | exact Hs.pure ⟨rfl, rfl, fun h => absurd h he, trivial⟩
          | refine Hs.n (fun _ => ?_) (fun h => absurd h he)
          | refine Hs.d (fun h => absurd h he) (fun _ => ?_)
          | refine Hs.evb (nodeR ..) ?_
      have g2c := g2c h2
      have b := bw_ks l [[41]] g2.2.1 (by omega)
      generalize ks l [[41]] g2.2.1 = g3 at *
      obtain ⟨g3a, g3b⟩ := b
      exact Hs.evb (nodeR ..) (Hs.pure ⟨rfl, rfl, fun _ => rfl, trivial⟩)
    rw [if_neg k2]
    refine Hs.isF (by simpa using k2) ?_
    refine Hs.step (F := fun K => ref07_atom_c2 K _ _ _) (fun k => by rw [ref07_atom_c2]) ?_
    have b := bw_ks l [[41]] (g1.2.1) (by omega)
    have p := rKeys hl [[41]] (by decide) (g1.2.1) (by omega)
    generalize ks l [[41]] (g1.2.1) = g2 at *
    obtain ⟨g2a, g2b⟩ := b
    refine Hs.parRU p (fun h2 => ?_) (fun he => ?_)
    rotate_left
    · repeat' first
        | exact Hs.pure ⟨rfl, rfl, fun h => absurd h he, trivial⟩
        | refine Hs.n (fun _ => ?_) (fun h => absurd h he)
        | refine Hs.d (fun h => absurd h he) (fun _ => ?_)
    exact Hs.pure ⟨rfl, rfl, fun _ => rfl, trivial⟩
  · rw [if_neg k0]
    refine Hs.isT (by simpa using k0) ?_
    exact Hs.pure ⟨rfl, rfl, fun _ => rfl, trivial⟩
omit hl hT in
theorem jx_zero {c : Nat} {f : Nat → List Token → Int → Option (Tr × Int × Int)} {g : Nat → RT} (hc : 0 < c) : JX l 0 c f g := fun j _ h => by omega
omit hl hT in
theorem jl_zero {f : Nat → List Token → Int → Tr → Int → Option (Tr × Int × Int)} {g : Tr → Nat → RT} : JL l 0 f g := fun j _ h => by omega
/-- the document's parser, whole -/
theorem pr_all : ∀ n, JX l n 6 ref07_expr (eExpr l n) ∧ JA l n ∧ JX l n 5 ref07_cmp (eCmp l n) ∧ JX l n 4 ref07_sum (eSum l n) ∧ JL l n ref07_sum_l0 (eSumL l n) ∧
    JX l n 3 ref07_term (eTerm l n) ∧ JL l n ref07_term_l0 (eTermL l n) ∧ JX l n 2 ref07_app (eApp l n) ∧ JL l n ref07_app_l0 (eAppL l n) ∧ JX l n 1 ref07_atom (eAtom l n) := by
  intro n
  induction n with
  | zero => exact ⟨jx_zero (by decide), fun j _ h => by omega, jx_zero (by decide), jx_zero (by decide), jl_zero, jx_zero (by decide), jl_zero, jx_zero (by decide), jl_zero, jx_zero (by decide)⟩
  | succ n ih =>
    obtain ⟨i1, i2, i3, i4, i5, i6, i7, i8, i9, i10⟩ := ih
    exact ⟨pr_expr hl hT i1 i2 i3, pr_arms hl hT i1 i2, pr_cmp hl i4, pr_sum hl i6 i5, pr_suml hl i6 i5, pr_term hl i8 i7, pr_terml hl i8 i7, pr_app hl i10 i9, pr_appl hl i10 i9, pr_atom hl i10 i1⟩
end
end Go.Proofs.YtnogkihchgnbcaaGreatDoor

/- The program's parser of expressions, at any place. -/
namespace Go.Proofs.YtnogkihchgnbcaaGreatDoor
open Go Go.Am Go.Sx
/-- the answer of a parser: no tree behind an error -/
def ansE (g : RT) : Tr × Int × Int := (if g.2.2 = 0 then g.1 else .nil, ((g.2.1 : Nat) : Int), g.2.2)
section
variable {l : List Token} (hl : l.length ≤ 1000)
include hl
theorem expr_p {n i : Nat} (hi : i ≤ l.length) (hn : 8 * (l.length - i) + 6 ≤ n) : Ev (fun K => pexpr_Expr K l (i : Int)) (ansE (eExpr l n i)) := by
  obtain ⟨⟨a, l', i', e'⟩, h1, h2, h3, h4, h5, _⟩ := (px_all hl n).1 i hi hn
  simp only at h2 h3 h4 h5
  subst h2 h3 h4
  refine Ev.congr (f := fun K => _) ?_ (fun k => by rw [pexpr_Expr])
  refine Ev.dF (by omega) ?_
  refine Ev.dF (by omega) ?_
  refine Ev.bind h1 ?_
  unfold ansE
  refine Ev.n (fun he => Ev.pure' (by rw [if_neg he])) (fun he => Ev.pure' (by rw [if_pos he, he, h5 he]))
end
end Go.Proofs.YtnogkihchgnbcaaGreatDoor

/- Both parsers of expressions, at any place. -/
namespace Go.Proofs.YtnogkihchgnbcaaGreatDoor
open Go Go.Am Go.Sx
section
variable {l : List Token} (hl : l.length ≤ 1000)
include hl
variable (hT : ∀ k ∈ l, k.2.1.length ≤ 1099511627776)
include hT
theorem expr_r {n i : Nat} (hi : i ≤ l.length) (hn : 8 * (l.length - i) + 6 ≤ n) : Ev (fun K => ref07_Expr K l (i : Int)) (ansE (eExpr l n i)) := by
  obtain ⟨⟨a, i', e'⟩, h1, h3, h4, h5, _⟩ := (pr_all hl hT n).1 i hi hn
  simp only at h3 h4 h5
  subst h3 h4
  refine Ev.congr (f := fun K => _) ?_ (fun k => by rw [ref07_Expr])
  refine Ev.dF (by omega) ?_
  refine Ev.dF (by omega) ?_
  refine Ev.bind h1 ?_
  unfold ansE
  refine Ev.n (fun he => Ev.pure' (by rw [if_neg he])) (fun he => Ev.pure' (by rw [if_pos he, he, h5 he]))
end
end Go.Proofs.YtnogkihchgnbcaaGreatDoor

