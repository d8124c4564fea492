/- Joined texts: Y3a, Y3, Y5p. -/
import Derived.Test.YtnogkihchgnbcaaGreatDoorGw
import Derived.Test.YtnogkihchgnbcaaGreatDoorGp
/- The parser of expressions: keys, names, types, what it does behind an error. -/
namespace Go.Proofs.YtnogkihchgnbcaaGreatDoor
open Go Go.Am Go.Sx
theorem Hs.isT {α : Type} {Q : α → Prop} {c : Bool} {f g : Nat → Option α} (h : c = true) (k : Hs f Q) : Hs (fun K => iteS c (f K) (g K)) Q := Hs.is (fun _ => k) (fun h' => by rw [h] at h'; cases h')
theorem Hs.isF {α : Type} {Q : α → Prop} {c : Bool} {f g : Nat → Option α} (h : c = false) (k : Hs g Q) : Hs (fun K => iteS c (f K) (g K)) Q := Hs.is (fun h' => by rw [h] at h'; cases h') (fun _ => k)
theorem Hs.ev {α : Type} {Q : α → Prop} {f : Nat → Option α} {v : α} (h : Ev f v) (k : Q v) : Hs f Q := ⟨v, h, k⟩
/-- what a step of the program comes to, held against the plain function's answer -/
def QS {α : Type} (l : List Token) (T : α → Prop) (r : α × Nat × Int) (x : α × List Token × Int × Int) : Prop := x.2.1 = l ∧ x.2.2.1 = ((r.2.1 : Nat) : Int) ∧ x.2.2.2 = r.2.2 ∧ (r.2.2 = 0 → x.1 = r.1) ∧ T x.1
abbrev TT : Tr → Prop := fun _ => True
theorem Hs.par {α β : Type} {l : List Token} {S : α → Prop} {T : β → Prop} {f : Nat → Option (α × List Token × Int × Int)} {g : α × List Token × Int × Int → Nat → Option (β × List Token × Int × Int)} {r : α × Nat × Int} {d : β} {h : α → Nat → β × Nat × Int}
    (hf : Hs f (QS l S r)) (ok : r.2.2 = 0 → S r.1 → Hs (g (r.1, l, ((r.2.1 : Nat) : Int), 0)) (QS l T (h r.1 r.2.1))) (no : ∀ a, S a → r.2.2 ≠ 0 → Hs (g (a, l, ((r.2.1 : Nat) : Int), r.2.2)) (QS l T (d, r.2.1, r.2.2))) : Hs (fun K => (f K).bind fun x => g x K) (QS l T (bnd d r h)) := by
  obtain ⟨⟨a, l', i', e'⟩, h1, h2, h3, h4, h5, h6⟩ := hf
  simp only at h2 h3 h4 h5 h6
  subst h2 h3 h4
  unfold bnd
  by_cases he : r.2.2 = 0
  · rw [if_pos he]
    have e := h5 he
    subst e
    rw [he] at h1
    exact Hs.evb h1 (ok he h6)
  · rw [if_neg he]
    exact Hs.evb h1 (no a h6 he)
theorem Hs.parU {β : Type} {l : List Token} {T : β → Prop} {f : Nat → Option (List Token × Int × Int)} {g : List Token × Int × Int → Nat → Option (β × List Token × Int × Int)} {r : Unit × Nat × Int} {d : β} {h : Unit → Nat → β × Nat × Int}
    (hf : Ev f (l, ((r.2.1 : Nat) : Int), r.2.2)) (ok : r.2.2 = 0 → Hs (g (l, ((r.2.1 : Nat) : Int), 0)) (QS l T (h r.1 r.2.1))) (no : r.2.2 ≠ 0 → Hs (g (l, ((r.2.1 : Nat) : Int), r.2.2)) (QS l T (d, r.2.1, r.2.2))) : Hs (fun K => (f K).bind fun x => g x K) (QS l T (bnd d r h)) := by
  unfold bnd
  by_cases he : r.2.2 = 0
  · rw [if_pos he]
    rw [he] at hf
    exact Hs.evb hf (ok he)
  · rw [if_neg he]
    exact Hs.evb hf (no he)
theorem nodeX (c : Int) (s : List UInt8) (ks : List Tr) : Ev (fun K => pexpr_node K c s ks) (.node c 0 s [] ks) := ⟨0, fun _ _ => rfl⟩
theorem opX (c : Int) (a b : Tr) : Ev (fun K => pexpr_op K c a b) (opN c a b) := ⟨0, fun _ _ => rfl⟩
/-! ### behind an error -/
section
variable (l : List Token) (i e : Int) (he : e ≠ 0)
include he
theorem xkey_err (t : List UInt8) : Ev (fun K => pexpr_parser_key K l i e t) (false, l, i, e) :=
  Ev.congr (f := fun K => _) (Ev.nT he Ev.pure) (fun k => by rw [pexpr_parser_key])
theorem xfail_err (c : Int) : Ev (fun K => pexpr_parser_fail K l i e c) (l, i, e) :=
  Ev.congr (f := fun K => _) (Ev.dF he Ev.pure) (fun k => by rw [pexpr_parser_fail])
theorem xmustl_err (t : List (List UInt8)) (ht : t.length ≤ 1000) : ∀ (m j : Nat), t.length = j + m → Ev (fun K => pexpr_parser_must_l0 K t (j : Int) l i e) (l, i, e) := by
  intro m
  induction m with
  | zero =>
    intro j hj
    exact Ev.step (fun k => by rw [pexpr_parser_must_l0]) (Ev.dF (by omega) Ev.pure)
  | succ m ih =>
    intro j hj
    refine Ev.step (fun k => by rw [pexpr_parser_must_l0]) ?_
    refine Ev.dT (by omega) ?_
    refine Ev.opt (getI_lt (by omega)) ?_
    refine Ev.bind (xkey_err l i e he _) ?_
    refine Ev.isT rfl ?_
    refine Ev.bind (xfail_err l i e he _) ?_
    rw [wrap_nat (by omega)]
    exact ih (j + 1) (by omega)
theorem xmust_err (t : List (List UInt8)) (ht : t.length ≤ 1000) : Ev (fun K => pexpr_parser_must K l i e t) (l, i, e) := by
  refine Ev.congr (f := fun K => _) ?_ (fun k => by rw [pexpr_parser_must])
  exact xmustl_err l i e he t ht t.length 0 (by omega)
theorem xname_err : Ev (fun K => pexpr_parser_name K l i e) ([], l, i, e) := by
  refine Ev.congr (f := fun K => _) ?_ (fun k => by rw [pexpr_parser_name])
  refine Ev.bind (ev_pName l i) ?_
  refine Ev.nT he ?_
  exact Ev.bind (xfail_err l i e he 6) Ev.pure
theorem xtyp_err : Ev (fun K => pexpr_parser_typ K l i e) (.nil, l, i, e) :=
  Ev.congr (f := fun K => _) (Ev.nT he Ev.pure) (fun k => by rw [pexpr_parser_typ])
theorem xstarts_err : Ev (fun K => pexpr_parser_starts K l i e) (false, l, i, e) :=
  Ev.congr (f := fun K => _) (Ev.nT he Ev.pure) (fun k => by rw [pexpr_parser_starts])
theorem xatom_err : Ev (fun K => pexpr_parser_atom K l i e) (.nil, l, i, e) := by
  refine Ev.step (fun k => by rw [pexpr_parser_atom]) ?_
  refine Ev.bind (xstarts_err l i e he) ?_
  refine Ev.isT rfl ?_
  exact Ev.bind (xfail_err l i e he 6) Ev.pure
theorem xappl_err (a : Tr) : Ev (fun K => pexpr_parser_app_l0 K a l i e) (a, l, i, e) := by
  refine Ev.step (fun k => by rw [pexpr_parser_app_l0]) ?_
  refine Ev.bind (xstarts_err l i e he) ?_
  exact Ev.isF rfl Ev.pure
theorem xapp_err : Ev (fun K => pexpr_parser_app K l i e) (.nil, l, i, e) := by
  refine Ev.step (fun k => by rw [pexpr_parser_app]) ?_
  refine Ev.bind (xatom_err l i e he) ?_
  exact xappl_err l i e he _
theorem xc2_err (a : Tr) : Ev (fun K => pexpr_parser_chain_2_l0 K [42] [3] a l i e) (a, l, i, e) := by
  refine Ev.step (fun k => by rw [pexpr_parser_chain_2_l0]) ?_
  refine Ev.step (fun k => by rw [pexpr_parser_chain_2_l1]) ?_
  refine Ev.dT (by decide) ?_
  refine Ev.opt (a := [42]) rfl ?_
  refine Ev.bind (xkey_err l i e he _) ?_
  refine Ev.isT rfl ?_
  refine Ev.step (fun k => by rw [pexpr_parser_chain_2_l1]) ?_
  refine Ev.dF (by decide) ?_
  exact Ev.dT (by decide) Ev.pure
theorem xterm_err : Ev (fun K => pexpr_parser_term K l i e) (.nil, l, i, e) := by
  refine Ev.step (fun k => by rw [pexpr_parser_term]) ?_
  refine Ev.bind (a := (.nil, l, i, e)) ?_ Ev.pure
  refine Ev.step (fun k => by rw [pexpr_parser_chain_2]) ?_
  refine Ev.bind (xapp_err l i e he) ?_
  exact xc2_err l i e he _
theorem xc1_err (a : Tr) : Ev (fun K => pexpr_parser_chain_l0 K [43, 45] [1, 2] a l i e) (a, l, i, e) := by
  refine Ev.step (fun k => by rw [pexpr_parser_chain_l0]) ?_
  refine Ev.step (fun k => by rw [pexpr_parser_chain_l1]) ?_
  refine Ev.dT (by decide) ?_
  refine Ev.opt (a := [43]) rfl ?_
  refine Ev.bind (xkey_err l i e he _) ?_
  refine Ev.isT rfl ?_
  refine Ev.step (fun k => by rw [pexpr_parser_chain_l1]) ?_
  refine Ev.dT (by decide) ?_
  refine Ev.opt (a := [45]) rfl ?_
  refine Ev.bind (xkey_err l i e he _) ?_
  refine Ev.isT rfl ?_
  refine Ev.step (fun k => by rw [pexpr_parser_chain_l1]) ?_
  refine Ev.dF (by decide) ?_
  exact Ev.dT (by decide) Ev.pure
theorem xsum_err : Ev (fun K => pexpr_parser_sum K l i e) (.nil, l, i, e) := by
  refine Ev.step (fun k => by rw [pexpr_parser_sum]) ?_
  refine Ev.bind (a := (.nil, l, i, e)) ?_ Ev.pure
  refine Ev.step (fun k => by rw [pexpr_parser_chain]) ?_
  refine Ev.bind (xterm_err l i e he) ?_
  exact xc1_err l i e he _
theorem xcmp_err : Ev (fun K => pexpr_parser_cmp K l i e) (.nil, l, i, e) := by
  refine Ev.step (fun k => by rw [pexpr_parser_cmp]) ?_
  refine Ev.bind (xsum_err l i e he) ?_
  refine Ev.bind (xkey_err l i e he _) ?_
  refine Ev.isF rfl ?_
  refine Ev.bind (xkey_err l i e he _) ?_
  exact Ev.isF rfl Ev.pure
theorem xarmsl_err (out : List Tr) : Ev (fun K => pexpr_parser_arms_l0 K out l i e) (out, l, i, e) := by
  refine Ev.step (fun k => by rw [pexpr_parser_arms_l0]) ?_
  refine Ev.dF he ?_
  exact Ev.bind (xmust_err l i e he _ (by decide)) Ev.pure
theorem xarms_err : Ev (fun K => pexpr_parser_arms K l i e) ([], l, i, e) :=
  Ev.step (fun k => by rw [pexpr_parser_arms]) (xarmsl_err l i e he _)
theorem xexpr_err : Ev (fun K => pexpr_parser_expr K l i e) (.nil, l, i, e) := by
  refine Ev.step (fun k => by rw [pexpr_parser_expr]) ?_
  refine Ev.bind (xkey_err l i e he _) ?_
  refine Ev.isF rfl ?_
  refine Ev.bind (xkey_err l i e he _) ?_
  refine Ev.isF rfl ?_
  refine Ev.bind (xkey_err l i e he _) ?_
  refine Ev.isF rfl ?_
  refine Ev.bind (xkey_err l i e he _) ?_
  refine Ev.isF rfl ?_
  refine Ev.bind (xkey_err l i e he _) ?_
  refine Ev.isF rfl ?_
  exact Ev.bind (xcmp_err l i e he) Ev.pure
end
/-! ### steps behind an error -/
section
variable {α : Type} {Q : α → Prop} {l : List Token} {i e : Int} (he : e ≠ 0)
include he
theorem dT {g : Tr × List Token × Int × Int → Nat → Option α} (k : Hs (g (.nil, l, i, e)) Q) : Hs (fun K => (pexpr_parser_typ K l i e).bind fun x => g x K) Q := Hs.evb (xtyp_err l i e he) k
end
section
variable {l : List Token} {i : Nat} {e : Int} (he : e ≠ 0)
include he
theorem d1 {a : Tr} : Hs (fun K => pexpr_parser_chain_l0 K [43, 45] [1, 2] a l (i : Int) e) (QS l TT (.nil, i, e)) := Hs.ev (xc1_err l _ _ he _) ⟨rfl, rfl, rfl, fun h => absurd h he, trivial⟩
theorem d2 {a : Tr} : Hs (fun K => pexpr_parser_chain_2_l0 K [42] [3] a l (i : Int) e) (QS l TT (.nil, i, e)) := Hs.ev (xc2_err l _ _ he _) ⟨rfl, rfl, rfl, fun h => absurd h he, trivial⟩
end
/-! ### no error yet -/
theorem xkey_f {l : List Token} {i : Int} {t : List UInt8} (h : keyS l i t = false) : Ev (fun K => pexpr_parser_key K l i 0 t) (false, l, i, 0) := by
  refine Ev.congr (f := fun K => _) ?_ (fun k => by rw [pexpr_parser_key])
  refine Ev.nF rfl ?_
  refine Ev.bind (ev_pKey l i t) ?_
  exact Ev.isT (by rw [h]; rfl) Ev.pure
theorem xfail0 (l : List Token) (i c : Int) : Ev (fun K => pexpr_parser_fail K l i 0 c) (l, i, c) :=
  Ev.congr (f := fun K => _) (Ev.dT rfl Ev.pure) (fun k => by rw [pexpr_parser_fail])
section
variable {l : List Token} (hl : l.length ≤ 20000)
include hl
theorem xkey_t {i : Nat} {t : List UInt8} (h : keyS l (i : Int) t = true) : Ev (fun K => pexpr_parser_key K l (i : Int) 0 t) (true, l, ((i + 1 : Nat) : Int), 0) := by
  have hin := key_in h
  refine Ev.congr (f := fun K => _) ?_ (fun k => by rw [pexpr_parser_key])
  refine Ev.nF rfl ?_
  refine Ev.bind (ev_pKey l i t) ?_
  exact Ev.isF (by rw [h]; rfl) (Ev.pure' (by rw [wr1 (by omega)]))
theorem xmustl (t : List (List UInt8)) (ht : t.length ≤ 1000) : ∀ (m j i : Nat), t.length = j + m → Ev (fun K => pexpr_parser_must_l0 K t (j : Int) l (i : Int) 0) (l, (((ks l (t.drop j) i).2.1 : Nat) : Int), (ks l (t.drop j) i).2.2) := by
  intro m
  induction m with
  | zero =>
    intro j i hj
    rw [List.drop_of_length_le (by omega), ks]
    exact Ev.step (fun k => by rw [pexpr_parser_must_l0]) (Ev.dF (by omega) Ev.pure)
  | succ m ih =>
    intro j i hj
    have hlt : j < t.length := by omega
    rw [drop_get hlt, ks]
    refine Ev.step (fun k => by rw [pexpr_parser_must_l0]) ?_
    refine Ev.dT (by omega) ?_
    refine Ev.opt (getI_lt hlt) ?_
    by_cases hk : keyS l (i : Int) t[j] = true
    · rw [if_pos hk]
      refine Ev.bind (xkey_t hl hk) ?_
      refine Ev.isF rfl ?_
      rw [wrap_nat (by omega)]
      exact ih (j + 1) (i + 1) (by omega)
    · rw [if_neg hk]
      refine Ev.bind (xkey_f (by simpa using hk)) ?_
      refine Ev.isT rfl ?_
      refine Ev.bind (xfail0 l i 6) ?_
      rw [wrap_nat (by omega)]
      exact xmustl_err l i 6 (by decide) t ht m (j + 1) (by omega)
theorem xmust (t : List (List UInt8)) (ht : t.length ≤ 1000) (i : Nat) : Ev (fun K => pexpr_parser_must K l (i : Int) 0 t) (l, (((ks l t i).2.1 : Nat) : Int), (ks l t i).2.2) := by
  refine Ev.congr (f := fun K => _) ?_ (fun k => by rw [pexpr_parser_must])
  exact xmustl hl t ht t.length 0 i (by omega)
theorem xname (i : Nat) : Hs (fun K => pexpr_parser_name K l (i : Int) 0) (QS l (fun _ => True) (nmR l i)) := by
  refine Hs.congr (f := fun K => _) ?_ (fun k => by rw [pexpr_parser_name])
  have p := ev_pName l i
  unfold nmR
  have hin := name_in (l := l) (i := (i : Int))
  generalize nameS l (i : Int) = N at *
  obtain ⟨s, b⟩ := N
  refine Hs.evb p ?_
  refine Hs.n (fun h => absurd rfl h) (fun _ => ?_)
  cases b with
  | false =>
    refine Hs.isT rfl ?_
    refine Hs.evb (xfail0 l i 6) ?_
    exact Hs.pure ⟨rfl, rfl, rfl, fun _ => rfl, trivial⟩
  | true =>
    have hin := hin rfl
    refine Hs.isF rfl ?_
    exact Hs.pure ⟨rfl, by simp only [if_true]; rw [wr1 (by omega)], rfl, fun _ => rfl, trivial⟩
theorem ev_ptype {i : Nat} (hi : i ≤ l.length) : Ev (fun K => ptype_Type K l (i : Int)) (if (tyR l i).2.2 = 0 then (tyR l i).1 else .nil, (((tyR l i).2.1 : Nat) : Int), (tyR l i).2.2) := by
  obtain ⟨t', h1, h5, h4, h3⟩ := (ps_all hl (3 * l.length + 3) i hi).1 (by omega)
  unfold tyR
  generalize typS l (3 * l.length + 3) i = g at *
  refine Ev.congr (f := fun K => _) ?_ (fun k => by rw [ptype_Type])
  refine Ev.bind (begin_ok hl (by omega)) ?_
  refine Ev.bind h1 ?_
  refine Ev.n (fun he => Ev.pure' (by rw [if_neg he])) (fun he => Ev.pure' (by rw [if_pos he, he, (h5 he).1]))
theorem xtyp {i : Nat} (hi : i ≤ l.length) : Hs (fun K => pexpr_parser_typ K l (i : Int) 0) (QS l TT (tyR l i)) := by
  refine Hs.congr (f := fun K => _) ?_ (fun k => by rw [pexpr_parser_typ])
  refine Hs.n (fun h => absurd rfl h) (fun _ => ?_)
  refine Hs.evb (ev_ptype hl hi) ?_
  refine Hs.evb (xfail0 l _ _) ?_
  exact Hs.pure ⟨rfl, rfl, rfl, fun he => if_pos he, trivial⟩
theorem xstarts {i : Nat} (hi : i ≤ l.length) : Ev (fun K => pexpr_parser_starts K l (i : Int) 0) (stS l i, l, (i : Int), 0) := by
  have := hl
  refine Ev.congr (f := fun K => _) ?_ (fun k => by rw [pexpr_parser_starts])
  refine Ev.nF rfl ?_
  by_cases hlt : i < l.length
  · obtain ⟨k, _, hg, hk⟩ := tok_some (l := l) (i := (i : Int)) (by omega)
    have hkey : ∀ t, keyS l (i : Int) t = (decide (k.1 = 3) && decide (k.2.1 = t)) := fun t => by unfold keyS; rw [hk]
    have hlong : longS l (i : Int) = if k.1 = 1 ∧ lgS k.2.1 = true then (k.2.1, true) else ([], false) := by unfold longS; rw [hk]
    have hst : stS l i = if k.1 = 3 then decide (k.2.1 = [116, 114, 117, 101]) || (decide (k.2.1 = [102, 97, 108, 115, 101]) || (decide (k.2.1 = [40]) || (decide (k.2.1 = [35, 49]) || decide (k.2.1 = [35, 50]))))
      else if k.1 = 2 then decide (-1073741824 ≤ k.2.2.1) && decide (k.2.2.1 ≤ 1073741824) else decide (k.1 = 1) && lgS k.2.1 := by unfold stS; rw [hk]
    rw [hst]
    refine Ev.dF (by omega) ?_
    have key : ∀ t, Ev (fun K => ptype_Key K l (i : Int) t) (decide (k.1 = 3) && decide (k.2.1 = t)) := fun t => by have := ev_pKey l i t; rwa [hkey] at this
    by_cases h3 : k.1 = 3
    · rw [if_pos h3]
      have key : ∀ t, Ev (fun K => ptype_Key K l (i : Int) t) (decide (k.2.1 = t)) := fun t => by have := key t; rwa [decide_eq_true h3, Bool.true_and] at this
      refine Ev.bind (key _) ?_
      refine Ev.d (fun e => Ev.pure' (by rw [decide_eq_true e, Bool.true_or])) (fun e => ?_)
      rw [decide_eq_false e, Bool.false_or]
      refine Ev.bind (key _) ?_
      refine Ev.d (fun e => Ev.pure' (by rw [decide_eq_true e, Bool.true_or])) (fun e => ?_)
      rw [decide_eq_false e, Bool.false_or]
      refine Ev.bind (key _) ?_
      refine Ev.d (fun e => Ev.pure' (by rw [decide_eq_true e, Bool.true_or])) (fun e => ?_)
      rw [decide_eq_false e, Bool.false_or]
      refine Ev.bind (key _) ?_
      refine Ev.d (fun e => Ev.pure' (by rw [decide_eq_true e, Bool.true_or])) (fun e => ?_)
      rw [decide_eq_false e, Bool.false_or]
      refine Ev.bind (key _) ?_
      refine Ev.d (fun e => Ev.pure' (by rw [decide_eq_true e])) (fun e => ?_)
      rw [decide_eq_false e]
      refine Ev.bind (ev_pLong l i) ?_
      rw [hlong, if_neg (by omega)]
      refine Ev.isF rfl ?_
      refine Ev.opt hg ?_
      refine Ev.bind (a := false) ?_ Ev.pure
      refine Ev.congr (f := fun K => _) ?_ (fun k => by rw [pexpr_number])
      exact Ev.dF (by omega) Ev.pure
    · rw [if_neg h3]
      have key : ∀ t, Ev (fun K => ptype_Key K l (i : Int) t) false := fun t => by have := key t; rwa [decide_eq_false h3, Bool.false_and] at this
      refine Ev.bind (key _) (Ev.isF rfl ?_)
      refine Ev.bind (key _) (Ev.isF rfl ?_)
      refine Ev.bind (key _) (Ev.isF rfl ?_)
      refine Ev.bind (key _) (Ev.isF rfl ?_)
      refine Ev.bind (key _) (Ev.isF rfl ?_)
      refine Ev.bind (ev_pLong l i) ?_
      rw [hlong]
      by_cases h2 : k.1 = 2
      · rw [if_pos h2, if_neg (by omega)]
        refine Ev.isF rfl ?_
        refine Ev.opt hg ?_
        refine Ev.bind (a := decide (-1073741824 ≤ k.2.2.1) && decide (k.2.2.1 ≤ 1073741824)) ?_ Ev.pure
        refine Ev.congr (f := fun K => _) ?_ (fun k => by rw [pexpr_number])
        refine Ev.dT h2 ?_
        refine Ev.d (fun e => Ev.pure' (by rw [decide_eq_true e, Bool.true_and])) (fun e => Ev.pure' (by rw [decide_eq_false e, Bool.false_and]))
      · rw [if_neg h2]
        by_cases h1 : k.1 = 1 ∧ lgS k.2.1 = true
        · rw [if_pos h1]
          refine Ev.isT rfl (Ev.pure' ?_)
          rw [decide_eq_true h1.1, h1.2]; rfl
        · rw [if_neg h1]
          refine Ev.isF rfl ?_
          refine Ev.opt hg ?_
          refine Ev.bind (a := false) ?_ (Ev.pure' ?_)
          · refine Ev.congr (f := fun K => _) ?_ (fun k => by rw [pexpr_number])
            exact Ev.dF h2 Ev.pure
          · by_cases h0 : k.1 = 1
            · have : lgS k.2.1 = false := by
                cases hx : lgS k.2.1 with
                | false => rfl
                | true => exact absurd ⟨h0, hx⟩ h1
              rw [this, Bool.and_false]
            · rw [decide_eq_false h0, Bool.false_and]
  · refine Ev.dT (by omega) (Ev.pure' ?_)
    have : stS l i = false := by
      cases hx : stS l i with
      | false => rfl
      | true => exact absurd (st_in hx) hlt
    rw [this]
end
end Go.Proofs.YtnogkihchgnbcaaGreatDoor

/- The program's parser of expressions comes to its plain functions. Printed by gen7/y3.py. -/
namespace Go.Proofs.YtnogkihchgnbcaaGreatDoor
open Go Go.Am Go.Sx
/-- a function of the program at all places, with fuel enough for the plain function -/
def IX (l : List Token) (n c : Nat) (f : Nat → List Token → Int → Int → Option (Tr × List Token × Int × Int)) (g : Nat → RT) : Prop := ∀ j, j ≤ l.length → 8 * (l.length - j) + c ≤ n → Hs (fun K => f K l (j : Int) 0) (QS l TT (g j))
def IL (l : List Token) (n : Nat) (f : Nat → Tr → List Token → Int → Int → Option (Tr × List Token × Int × Int)) (g : Tr → Nat → RT) : Prop := ∀ j, j ≤ l.length → 8 * (l.length - j) + 2 ≤ n → ∀ a, Hs (fun K => f K a l (j : Int) 0) (QS l TT (g a j))
def IA (l : List Token) (n : Nat) : Prop := ∀ j, j ≤ l.length → 8 * (l.length - j) + 1 ≤ n → ∀ out, out.length ≤ j → Hs (fun K => pexpr_parser_arms_l0 K out l (j : Int) 0) (QS l (fun a => a.length ≤ 40000) (eArms l n out j))
theorem px_arms1 {l : List Token} {i : Int} {Q : List Tr × List Token × Int × Int → Prop} (h : Hs (fun K => pexpr_parser_arms_l0 K [] l i 0) Q) : Hs (fun K => pexpr_parser_arms K l i 0) Q :=
  Hs.step (fun k => by rw [pexpr_parser_arms]) h
theorem nm_at {l : List Token} {i : Nat} (h : (nmR l i).2.2 = 0) : (nmR l i).2.1 = i + 1 := by
  unfold nmR at h ⊢
  by_cases hk : (nameS l (i : Int)).2 = true
  · rw [if_pos hk]
  · rw [if_neg hk] at h; exact absurd (show (6 : Int) = 0 from h) (by decide)
section
variable {l : List Token} (hl : l.length ≤ 20000)
include hl
theorem e_bd_eExpr (n i : Nat) (hi : i ≤ l.length) : Pz l i (2 * i) (eExpr l n i) := (e_bd hl n i hi).1
theorem e_bd_eArms (n : Nat) (out : List Tr) (i : Nat) (hi : i ≤ l.length) : Pq l i out 0 (eArms l n out i) := (e_bd hl n i hi).2.1 out
theorem e_bd_eSum (n i : Nat) (hi : i ≤ l.length) : Pz l i (2 * i) (eSum l n i) := (e_bd hl n i hi).2.2.2.1
theorem e_bd_eTerm (n i : Nat) (hi : i ≤ l.length) : Pz l i (2 * i) (eTerm l n i) := (e_bd hl n i hi).2.2.2.2.2.1
theorem e_bd_eApp (n i : Nat) (hi : i ≤ l.length) : Pz l i (2 * i) (eApp l n i) := (e_bd hl n i hi).2.2.2.2.2.2.2.1
theorem e_bd_eAtom (n i : Nat) (hi : i ≤ l.length) : Pz l i (2 * i) (eAtom l n i) := (e_bd hl n i hi).2.2.2.2.2.2.2.2.2
variable {n : Nat}
theorem px_expr (ihE : IX l n 6 pexpr_parser_expr (eExpr l n)) (ihA : IA l n) (ihC : IX l n 5 pexpr_parser_cmp (eCmp l n)) : IX l (n + 1) 6 pexpr_parser_expr (eExpr l (n + 1)) := by
  intro i hi hn
  rw [eExpr]
  refine Hs.step (fun k => by rw [pexpr_parser_expr]) ?_
  by_cases k_fn : keyS l (i : Int) [102, 110] = true
  · rw [if_pos k_fn]
    have hin := key_in k_fn
    refine Hs.evb (xkey_t hl k_fn) ?_
    refine Hs.isT rfl ?_
    have b := bw_ks l [[40]] (i + 1) (by omega)
    have p := xmust hl [[40]] (by decide) (i + 1)
    generalize ks l [[40]] (i + 1) = g1 at *
    obtain ⟨g1a, g1b⟩ := b
    refine Hs.parU p (fun h1 => ?_) (fun he => ?_)
    rotate_left
    · repeat' first
        | exact Hs.pure ⟨rfl, rfl, rfl, fun h => absurd h he, trivial⟩
        | refine Hs.evb (xmust_err l _ _ he _ (by decide)) ?_
        | refine Hs.evb (xname_err l _ _ he) ?_
        | refine Hs.evb (xtyp_err l _ _ he) ?_
        | refine Hs.evb (xexpr_err l _ _ he) ?_
        | refine Hs.evb (nodeX ..) ?_
    have b := bw_nm (l := l) (i := g1.2.1) (by omega)
    have sN := nm_at (l := l) (i := g1.2.1)
    have p := xname hl (g1.2.1)
    generalize nmR l (g1.2.1) = g2 at *
    obtain ⟨g2a, g2b⟩ := b
    refine Hs.par p (fun h2 _ => ?_) (fun a _ he => ?_)
    rotate_left
    · repeat' first
        | exact Hs.pure ⟨rfl, rfl, rfl, fun h => absurd h he, trivial⟩
        | refine Hs.evb (xmust_err l _ _ he _ (by decide)) ?_
        | refine Hs.evb (xtyp_err l _ _ he) ?_
        | refine Hs.evb (xexpr_err l _ _ he) ?_
        | refine Hs.evb (nodeX ..) ?_
    have sN := sN h2
    have b := bw_ks l [[58]] (g2.2.1) (by omega)
    have p := xmust hl [[58]] (by decide) (g2.2.1)
    generalize ks l [[58]] (g2.2.1) = g3 at *
    obtain ⟨g3a, g3b⟩ := b
    refine Hs.parU p (fun h3 => ?_) (fun he => ?_)
    rotate_left
    · repeat' first
        | exact Hs.pure ⟨rfl, rfl, rfl, fun h => absurd h he, trivial⟩
        | refine Hs.evb (xmust_err l _ _ he _ (by decide)) ?_
        | refine Hs.evb (xtyp_err l _ _ he) ?_
        | refine Hs.evb (xexpr_err l _ _ he) ?_
        | refine Hs.evb (nodeX ..) ?_
    have b := ty_pz hl (i := g3.2.1) (by omega)
    have p := xtyp hl (i := g3.2.1) (by omega)
    generalize tyR l (g3.2.1) = g4 at *
    obtain ⟨g4a, g4b, g4c⟩ := b
    refine Hs.par p (fun h4 _ => ?_) (fun a _ he => ?_)
    rotate_left
    · repeat' first
        | exact Hs.pure ⟨rfl, rfl, rfl, fun h => absurd h he, trivial⟩
        | refine Hs.evb (xmust_err l _ _ he _ (by decide)) ?_
        | refine Hs.evb (xexpr_err l _ _ he) ?_
        | refine Hs.evb (nodeX ..) ?_
    have g4c := g4c h4
    have b := bw_ks l [[41], [61, 62]] (g4.2.1) (by omega)
    have p := xmust hl [[41], [61, 62]] (by decide) (g4.2.1)
    generalize ks l [[41], [61, 62]] (g4.2.1) = g5 at *
    obtain ⟨g5a, g5b⟩ := b
    refine Hs.parU p (fun h5 => ?_) (fun he => ?_)
    rotate_left
    · repeat' first
        | exact Hs.pure ⟨rfl, rfl, rfl, fun h => absurd h he, trivial⟩
        | refine Hs.evb (xexpr_err l _ _ he) ?_
        | refine Hs.evb (nodeX ..) ?_
    have b := e_bd_eExpr hl n (g5.2.1) (by omega)
    have p := ihE (g5.2.1) (by omega) (by omega)
    generalize eExpr l n (g5.2.1) = g6 at *
    obtain ⟨g6a, g6b, g6c⟩ := b
    refine Hs.par p (fun h6 _ => ?_) (fun a _ he => ?_)
    rotate_left
    · repeat' first
        | exact Hs.pure ⟨rfl, rfl, rfl, fun h => absurd h he, trivial⟩
        | refine Hs.evb (nodeX ..) ?_
    have g6c := g6c h6
    exact Hs.evb (nodeX ..) (Hs.pure ⟨rfl, rfl, rfl, fun _ => rfl, trivial⟩)
  rw [if_neg k_fn]
  refine Hs.evb (xkey_f (by simpa using k_fn)) ?_
  refine Hs.isF rfl ?_
  by_cases k_let : keyS l (i : Int) [108, 101, 116] = true
  · rw [if_pos k_let]
    have hin := key_in k_let
    refine Hs.evb (xkey_t hl k_let) ?_
    refine Hs.isT rfl ?_
    have b := bw_nm (l := l) (i := i + 1) (by omega)
    have sN := nm_at (l := l) (i := i + 1)
    have p := xname hl (i + 1)
    generalize nmR l (i + 1) = g1 at *
    obtain ⟨g1a, g1b⟩ := b
    refine Hs.par p (fun h1 _ => ?_) (fun a _ he => ?_)
    rotate_left
    · repeat' first
        | exact Hs.pure ⟨rfl, rfl, rfl, fun h => absurd h he, trivial⟩
        | refine Hs.evb (xmust_err l _ _ he _ (by decide)) ?_
        | refine Hs.evb (xexpr_err l _ _ he) ?_
        | refine Hs.evb (nodeX ..) ?_
    have sN := sN h1
    have b := bw_ks l [[61]] (g1.2.1) (by omega)
    have p := xmust hl [[61]] (by decide) (g1.2.1)
    generalize ks l [[61]] (g1.2.1) = g2 at *
    obtain ⟨g2a, g2b⟩ := b
    refine Hs.parU p (fun h2 => ?_) (fun he => ?_)
    rotate_left
    · repeat' first
        | exact Hs.pure ⟨rfl, rfl, rfl, fun h => absurd h he, trivial⟩
        | refine Hs.evb (xmust_err l _ _ he _ (by decide)) ?_
        | refine Hs.evb (xexpr_err l _ _ he) ?_
        | refine Hs.evb (nodeX ..) ?_
    have b := e_bd_eExpr hl n (g2.2.1) (by omega)
    have p := ihE (g2.2.1) (by omega) (by omega)
    generalize eExpr l n (g2.2.1) = g3 at *
    obtain ⟨g3a, g3b, g3c⟩ := b
    refine Hs.par p (fun h3 _ => ?_) (fun a _ he => ?_)
    rotate_left
    · repeat' first
        | exact Hs.pure ⟨rfl, rfl, rfl, fun h => absurd h he, trivial⟩
        | refine Hs.evb (xmust_err l _ _ he _ (by decide)) ?_
        | refine Hs.evb (xexpr_err l _ _ he) ?_
        | refine Hs.evb (nodeX ..) ?_
    have g3c := g3c h3
    have b := bw_ks l [[105, 110]] (g3.2.1) (by omega)
    have p := xmust hl [[105, 110]] (by decide) (g3.2.1)
    generalize ks l [[105, 110]] (g3.2.1) = g4 at *
    obtain ⟨g4a, g4b⟩ := b
    refine Hs.parU p (fun h4 => ?_) (fun he => ?_)
    rotate_left
    · repeat' first
        | exact Hs.pure ⟨rfl, rfl, rfl, fun h => absurd h he, trivial⟩
        | refine Hs.evb (xmust_err l _ _ he _ (by decide)) ?_
        | refine Hs.evb (xexpr_err l _ _ he) ?_
        | refine Hs.evb (nodeX ..) ?_
    have b := e_bd_eExpr hl n (g4.2.1) (by omega)
    have p := ihE (g4.2.1) (by omega) (by omega)
    generalize eExpr l n (g4.2.1) = g5 at *
    obtain ⟨g5a, g5b, g5c⟩ := b
    refine Hs.par p (fun h5 _ => ?_) (fun a _ he => ?_)
    rotate_left
    · repeat' first
        | exact Hs.pure ⟨rfl, rfl, rfl, fun h => absurd h he, trivial⟩
        | refine Hs.evb (xmust_err l _ _ he _ (by decide)) ?_
        | refine Hs.evb (nodeX ..) ?_
    have g5c := g5c h5
    have b := bw_ks l [[101, 110, 100]] (g5.2.1) (by omega)
    have p := xmust hl [[101, 110, 100]] (by decide) (g5.2.1)
    generalize ks l [[101, 110, 100]] (g5.2.1) = g6 at *
    obtain ⟨g6a, g6b⟩ := b
    refine Hs.parU p (fun h6 => ?_) (fun he => ?_)
    rotate_left
    · repeat' first
        | exact Hs.pure ⟨rfl, rfl, rfl, fun h => absurd h he, trivial⟩
        | refine Hs.evb (nodeX ..) ?_
    exact Hs.evb (nodeX ..) (Hs.pure ⟨rfl, rfl, rfl, fun _ => rfl, trivial⟩)
  rw [if_neg k_let]
  refine Hs.evb (xkey_f (by simpa using k_let)) ?_
  refine Hs.isF rfl ?_
  by_cases k_if : keyS l (i : Int) [105, 102] = true
  · rw [if_pos k_if]
    have hin := key_in k_if
    refine Hs.evb (xkey_t hl k_if) ?_
    refine Hs.isT rfl ?_
    have b := e_bd_eExpr hl n (i + 1) (by omega)
    have p := ihE (i + 1) (by omega) (by omega)
    generalize eExpr l n (i + 1) = g1 at *
    obtain ⟨g1a, g1b, g1c⟩ := b
    refine Hs.par p (fun h1 _ => ?_) (fun a _ he => ?_)
    rotate_left
    · repeat' first
        | exact Hs.pure ⟨rfl, rfl, rfl, fun h => absurd h he, trivial⟩
        | refine Hs.evb (xmust_err l _ _ he _ (by decide)) ?_
        | refine Hs.evb (xexpr_err l _ _ he) ?_
        | refine Hs.evb (nodeX ..) ?_
    have g1c := g1c h1
    have b := bw_ks l [[116, 104, 101, 110]] (g1.2.1) (by omega)
    have p := xmust hl [[116, 104, 101, 110]] (by decide) (g1.2.1)
    generalize ks l [[116, 104, 101, 110]] (g1.2.1) = g2 at *
    obtain ⟨g2a, g2b⟩ := b
    refine Hs.parU p (fun h2 => ?_) (fun he => ?_)
    rotate_left
    · repeat' first
        | exact Hs.pure ⟨rfl, rfl, rfl, fun h => absurd h he, trivial⟩
        | refine Hs.evb (xmust_err l _ _ he _ (by decide)) ?_
        | refine Hs.evb (xexpr_err l _ _ he) ?_
        | refine Hs.evb (nodeX ..) ?_
    have b := e_bd_eExpr hl n (g2.2.1) (by omega)
    have p := ihE (g2.2.1) (by omega) (by omega)
    generalize eExpr l n (g2.2.1) = g3 at *
    obtain ⟨g3a, g3b, g3c⟩ := b
    refine Hs.par p (fun h3 _ => ?_) (fun a _ he => ?_)
    rotate_left
    · repeat' first
        | exact Hs.pure ⟨rfl, rfl, rfl, fun h => absurd h he, trivial⟩
        | refine Hs.evb (xmust_err l _ _ he _ (by decide)) ?_
        | refine Hs.evb (xexpr_err l _ _ he) ?_
        | refine Hs.evb (nodeX ..) ?_
    have g3c := g3c h3
    have b := bw_ks l [[101, 108, 115, 101]] (g3.2.1) (by omega)
    have p := xmust hl [[101, 108, 115, 101]] (by decide) (g3.2.1)
    generalize ks l [[101, 108, 115, 101]] (g3.2.1) = g4 at *
    obtain ⟨g4a, g4b⟩ := b
    refine Hs.parU p (fun h4 => ?_) (fun he => ?_)
    rotate_left
    · repeat' first
        | exact Hs.pure ⟨rfl, rfl, rfl, fun h => absurd h he, trivial⟩
        | refine Hs.evb (xexpr_err l _ _ he) ?_
        | refine Hs.evb (nodeX ..) ?_
    have b := e_bd_eExpr hl n (g4.2.1) (by omega)
    have p := ihE (g4.2.1) (by omega) (by omega)
    generalize eExpr l n (g4.2.1) = g5 at *
    obtain ⟨g5a, g5b, g5c⟩ := b
    refine Hs.par p (fun h5 _ => ?_) (fun a _ he => ?_)
    rotate_left
    · repeat' first
        | exact Hs.pure ⟨rfl, rfl, rfl, fun h => absurd h he, trivial⟩
        | refine Hs.evb (nodeX ..) ?_
    have g5c := g5c h5
    exact Hs.evb (nodeX ..) (Hs.pure ⟨rfl, rfl, rfl, fun _ => rfl, trivial⟩)
  rw [if_neg k_if]
  refine Hs.evb (xkey_f (by simpa using k_if)) ?_
  refine Hs.isF rfl ?_
  by_cases k_case : keyS l (i : Int) [99, 97, 115, 101] = true
  · rw [if_pos k_case]
    have hin := key_in k_case
    refine Hs.evb (xkey_t hl k_case) ?_
    refine Hs.isT rfl ?_
    have b := e_bd_eExpr hl n (i + 1) (by omega)
    have p := ihE (i + 1) (by omega) (by omega)
    generalize eExpr l n (i + 1) = g1 at *
    obtain ⟨g1a, g1b, g1c⟩ := b
    refine Hs.par p (fun h1 _ => ?_) (fun a _ he => ?_)
    rotate_left
    · repeat' first
        | exact Hs.pure ⟨rfl, rfl, rfl, fun h => absurd h he, trivial⟩
        | refine Hs.evb (xmust_err l _ _ he _ (by decide)) ?_
        | refine Hs.evb (xarms_err l _ _ he) ?_
        | refine Hs.evb (nodeX ..) ?_
        | refine Hs.opt (appL_ok (by simp; omega)) ?_
    have g1c := g1c h1
    have b := bw_ks l [[111, 102]] (g1.2.1) (by omega)
    have p := xmust hl [[111, 102]] (by decide) (g1.2.1)
    generalize ks l [[111, 102]] (g1.2.1) = g2 at *
    obtain ⟨g2a, g2b⟩ := b
    refine Hs.parU p (fun h2 => ?_) (fun he => ?_)
    rotate_left
    · repeat' first
        | exact Hs.pure ⟨rfl, rfl, rfl, fun h => absurd h he, trivial⟩
        | refine Hs.evb (xarms_err l _ _ he) ?_
        | refine Hs.evb (nodeX ..) ?_
        | refine Hs.opt (appL_ok (by simp; omega)) ?_
    have b := e_bd_eArms hl n [] (g2.2.1) (by omega)
    have p := px_arms1 (ihA (g2.2.1) (by omega) (by omega) [] (by simp))
    generalize eArms l n [] (g2.2.1) = g3 at *
    obtain ⟨g3a, g3b, g3c⟩ := b
    refine Hs.par p (fun h3 hs => ?_) (fun a hs he => ?_)
    rotate_left
    · repeat' first
        | exact Hs.pure ⟨rfl, rfl, rfl, fun h => absurd h he, trivial⟩
        | refine Hs.evb (nodeX ..) ?_
        | refine Hs.opt (appL_ok (by simp; omega)) ?_
    refine Hs.opt (appL_ok (by simp; omega)) ?_
    exact Hs.evb (nodeX ..) (Hs.pure ⟨rfl, rfl, rfl, fun _ => rfl, trivial⟩)
  rw [if_neg k_case]
  refine Hs.evb (xkey_f (by simpa using k_case)) ?_
  refine Hs.isF rfl ?_
  by_cases k_fold : keyS l (i : Int) [102, 111, 108, 100] = true
  · rw [if_pos k_fold]
    have hin := key_in k_fold
    refine Hs.evb (xkey_t hl k_fold) ?_
    refine Hs.isT rfl ?_
    have b := e_bd_eExpr hl n (i + 1) (by omega)
    have p := ihE (i + 1) (by omega) (by omega)
    generalize eExpr l n (i + 1) = g1 at *
    obtain ⟨g1a, g1b, g1c⟩ := b
    refine Hs.par p (fun h1 _ => ?_) (fun a _ he => ?_)
    rotate_left
    · repeat' first
        | exact Hs.pure ⟨rfl, rfl, rfl, fun h => absurd h he, trivial⟩
        | refine Hs.evb (xmust_err l _ _ he _ (by decide)) ?_
        | refine Hs.evb (xtyp_err l _ _ he) ?_
        | refine Hs.evb (xarms_err l _ _ he) ?_
        | refine Hs.evb (nodeX ..) ?_
        | refine Hs.opt (appL_ok (by simp; omega)) ?_
    have g1c := g1c h1
    have b := bw_ks l [[116, 111]] (g1.2.1) (by omega)
    have p := xmust hl [[116, 111]] (by decide) (g1.2.1)
    generalize ks l [[116, 111]] (g1.2.1) = g2 at *
    obtain ⟨g2a, g2b⟩ := b
    refine Hs.parU p (fun h2 => ?_) (fun he => ?_)
    rotate_left
    · repeat' first
        | exact Hs.pure ⟨rfl, rfl, rfl, fun h => absurd h he, trivial⟩
        | refine Hs.evb (xmust_err l _ _ he _ (by decide)) ?_
        | refine Hs.evb (xtyp_err l _ _ he) ?_
        | refine Hs.evb (xarms_err l _ _ he) ?_
        | refine Hs.evb (nodeX ..) ?_
        | refine Hs.opt (appL_ok (by simp; omega)) ?_
    have b := ty_pz hl (i := g2.2.1) (by omega)
    have p := xtyp hl (i := g2.2.1) (by omega)
    generalize tyR l (g2.2.1) = g3 at *
    obtain ⟨g3a, g3b, g3c⟩ := b
    refine Hs.par p (fun h3 _ => ?_) (fun a _ he => ?_)
    rotate_left
    · repeat' first
        | exact Hs.pure ⟨rfl, rfl, rfl, fun h => absurd h he, trivial⟩
        | refine Hs.evb (xmust_err l _ _ he _ (by decide)) ?_
        | refine Hs.evb (xarms_err l _ _ he) ?_
        | refine Hs.evb (nodeX ..) ?_
        | refine Hs.opt (appL_ok (by simp; omega)) ?_
    have g3c := g3c h3
    have b := bw_ks l [[111, 102]] (g3.2.1) (by omega)
    have p := xmust hl [[111, 102]] (by decide) (g3.2.1)
    generalize ks l [[111, 102]] (g3.2.1) = g4 at *
    obtain ⟨g4a, g4b⟩ := b
    refine Hs.parU p (fun h4 => ?_) (fun he => ?_)
    rotate_left
    · repeat' first
        | exact Hs.pure ⟨rfl, rfl, rfl, fun h => absurd h he, trivial⟩
        | refine Hs.evb (xarms_err l _ _ he) ?_
        | refine Hs.evb (nodeX ..) ?_
        | refine Hs.opt (appL_ok (by simp; omega)) ?_
    have b := e_bd_eArms hl n [] (g4.2.1) (by omega)
    have p := px_arms1 (ihA (g4.2.1) (by omega) (by omega) [] (by simp))
    generalize eArms l n [] (g4.2.1) = g5 at *
    obtain ⟨g5a, g5b, g5c⟩ := b
    refine Hs.par p (fun h5 hs => ?_) (fun a hs he => ?_)
    rotate_left
    · repeat' first
        | exact Hs.pure ⟨rfl, rfl, rfl, fun h => absurd h he, trivial⟩
        | refine Hs.evb (nodeX ..) ?_
        | refine Hs.opt (appL_ok (by simp; omega)) ?_
    refine Hs.opt (appL_ok (by simp; omega)) ?_
    exact Hs.evb (nodeX ..) (Hs.pure ⟨rfl, rfl, rfl, fun _ => rfl, trivial⟩)
  rw [if_neg k_fold]
  refine Hs.evb (xkey_f (by simpa using k_fold)) ?_
  refine Hs.isF rfl ?_
  obtain ⟨v, h1, h2⟩ := ihC i hi (by omega)
  obtain ⟨a, l', i', e'⟩ := v
  exact Hs.evb h1 (Hs.pure h2)
theorem px_arms (ihE : IX l n 6 pexpr_parser_expr (eExpr l n)) (ihA : IA l n) : IA l (n + 1) := by
  intro i hi hn out ho
  rw [eArms]
  refine Hs.step (fun k => by rw [pexpr_parser_arms_l0]) ?_
  refine Hs.isT rfl ?_
  have b := bw_nm (l := l) (i := i) (by omega)
  have sN := nm_at (l := l) (i := i)
  have p := xname hl (i)
  generalize nmR l (i) = g1 at *
  obtain ⟨g1a, g1b⟩ := b
  refine Hs.par p (fun h1 _ => ?_) (fun a _ he => ?_)
  rotate_left
  · repeat' first
      | exact Hs.pure ⟨rfl, rfl, rfl, fun h => absurd h he, by simp; omega⟩
      | refine Hs.evb (xmust_err l _ _ he _ (by decide)) ?_
      | refine Hs.evb (xname_err l _ _ he) ?_
      | refine Hs.evb (xexpr_err l _ _ he) ?_
      | refine Hs.opt (appL_ok (by simp; omega)) ?_
      | refine Hs.evb (xkey_err l _ _ he _) ?_
      | refine Hs.isF rfl ?_
      | refine Hs.isT rfl ?_
  have sN := sN h1
  have b := bw_nm (l := l) (i := g1.2.1) (by omega)
  have sN := nm_at (l := l) (i := g1.2.1)
  have p := xname hl (g1.2.1)
  generalize nmR l (g1.2.1) = g2 at *
  obtain ⟨g2a, g2b⟩ := b
  refine Hs.par p (fun h2 _ => ?_) (fun a _ he => ?_)
  rotate_left
  · repeat' first
      | exact Hs.pure ⟨rfl, rfl, rfl, fun h => absurd h he, by simp; omega⟩
      | refine Hs.evb (xmust_err l _ _ he _ (by decide)) ?_
      | refine Hs.evb (xexpr_err l _ _ he) ?_
      | refine Hs.opt (appL_ok (by simp; omega)) ?_
      | refine Hs.evb (xkey_err l _ _ he _) ?_
      | refine Hs.isF rfl ?_
      | refine Hs.isT rfl ?_
  have sN := sN h2
  have b := bw_ks l [[61, 62]] (g2.2.1) (by omega)
  have p := xmust hl [[61, 62]] (by decide) (g2.2.1)
  generalize ks l [[61, 62]] (g2.2.1) = g3 at *
  obtain ⟨g3a, g3b⟩ := b
  refine Hs.parU p (fun h3 => ?_) (fun he => ?_)
  rotate_left
  · repeat' first
      | exact Hs.pure ⟨rfl, rfl, rfl, fun h => absurd h he, by simp; omega⟩
      | refine Hs.evb (xmust_err l _ _ he _ (by decide)) ?_
      | refine Hs.evb (xexpr_err l _ _ he) ?_
      | refine Hs.opt (appL_ok (by simp; omega)) ?_
      | refine Hs.evb (xkey_err l _ _ he _) ?_
      | refine Hs.isF rfl ?_
      | refine Hs.isT rfl ?_
  have b := e_bd_eExpr hl n (g3.2.1) (by omega)
  have p := ihE (g3.2.1) (by omega) (by omega)
  generalize eExpr l n (g3.2.1) = g4 at *
  obtain ⟨g4a, g4b, g4c⟩ := b
  refine Hs.par p (fun h4 _ => ?_) (fun a _ he => ?_)
  rotate_left
  · repeat' first
      | exact Hs.pure ⟨rfl, rfl, rfl, fun h => absurd h he, by simp; omega⟩
      | refine Hs.evb (xmust_err l _ _ he _ (by decide)) ?_
      | refine Hs.opt (appL_ok (by simp; omega)) ?_
      | refine Hs.evb (xkey_err l _ _ he _) ?_
      | refine Hs.isF rfl ?_
      | refine Hs.isT rfl ?_
  have g4c := g4c h4
  refine Hs.opt (appL_ok (by simp; omega)) ?_
  by_cases kb : keyS l (g4.2.1 : Int) [124] = true
  · rw [if_pos kb]
    have hin := key_in kb
    refine Hs.evb (xkey_t hl kb) ?_
    refine Hs.isF rfl ?_
    exact ihA (g4.2.1 + 1) (by omega) (by omega) _ (by simp; omega)
  · rw [if_neg kb]
    refine Hs.evb (xkey_f (by simpa using kb)) ?_
    refine Hs.isT rfl ?_
    have b := bw_ks l [[101, 110, 100]] (g4.2.1) (by omega)
    have p := xmust hl [[101, 110, 100]] (by decide) (g4.2.1)
    generalize ks l [[101, 110, 100]] (g4.2.1) = g5 at *
    obtain ⟨g5a, g5b⟩ := b
    refine Hs.parU p (fun h5 => ?_) (fun he => ?_)
    rotate_left
    · exact Hs.pure ⟨rfl, rfl, rfl, fun h => absurd h he, by simp; omega⟩
    exact Hs.pure ⟨rfl, rfl, rfl, fun _ => rfl, by simp; omega⟩
theorem px_cmp (ihS : IX l n 4 pexpr_parser_sum (eSum l n)) : IX l (n + 1) 5 pexpr_parser_cmp (eCmp l (n + 1)) := by
  intro i hi hn
  rw [eCmp]
  refine Hs.step (fun k => by rw [pexpr_parser_cmp]) ?_
  have b := e_bd_eSum hl n (i) (by omega)
  have p := ihS (i) (by omega) (by omega)
  generalize eSum l n (i) = g1 at *
  obtain ⟨g1a, g1b, g1c⟩ := b
  refine Hs.par p (fun h1 _ => ?_) (fun a _ he => ?_)
  rotate_left
  · repeat' first
      | exact Hs.pure ⟨rfl, rfl, rfl, fun h => absurd h he, trivial⟩
      | refine Hs.evb (opX ..) ?_
      | refine Hs.evb (xkey_err l _ _ he _) ?_
      | refine Hs.evb (xsum_err l _ _ he) ?_
      | refine Hs.isF rfl ?_
      | refine Hs.isT rfl ?_
  have g1c := g1c h1
  by_cases k4 : keyS l (g1.2.1 : Int) [61] = true
  · rw [if_pos k4]
    have hin := key_in k4
    refine Hs.evb (xkey_t hl k4) ?_
    refine Hs.isT rfl ?_
    have b := e_bd_eSum hl n (g1.2.1 + 1) (by omega)
    have p := ihS (g1.2.1 + 1) (by omega) (by omega)
    generalize eSum l n (g1.2.1 + 1) = g2 at *
    obtain ⟨g2a, g2b, g2c⟩ := b
    refine Hs.par p (fun h2 _ => ?_) (fun a _ he => ?_)
    rotate_left
    · repeat' first
        | exact Hs.pure ⟨rfl, rfl, rfl, fun h => absurd h he, trivial⟩
        | refine Hs.evb (opX ..) ?_
    have g2c := g2c h2
    exact Hs.evb (opX ..) (Hs.pure ⟨rfl, rfl, rfl, fun _ => rfl, trivial⟩)
  rw [if_neg k4]
  refine Hs.evb (xkey_f (by simpa using k4)) ?_
  refine Hs.isF rfl ?_
  by_cases k5 : keyS l (g1.2.1 : Int) [60] = true
  · rw [if_pos k5]
    have hin := key_in k5
    refine Hs.evb (xkey_t hl k5) ?_
    refine Hs.isT rfl ?_
    have b := e_bd_eSum hl n (g1.2.1 + 1) (by omega)
    have p := ihS (g1.2.1 + 1) (by omega) (by omega)
    generalize eSum l n (g1.2.1 + 1) = g2 at *
    obtain ⟨g2a, g2b, g2c⟩ := b
    refine Hs.par p (fun h2 _ => ?_) (fun a _ he => ?_)
    rotate_left
    · repeat' first
        | exact Hs.pure ⟨rfl, rfl, rfl, fun h => absurd h he, trivial⟩
        | refine Hs.evb (opX ..) ?_
    have g2c := g2c h2
    exact Hs.evb (opX ..) (Hs.pure ⟨rfl, rfl, rfl, fun _ => rfl, trivial⟩)
  rw [if_neg k5]
  refine Hs.evb (xkey_f (by simpa using k5)) ?_
  refine Hs.isF rfl ?_
  exact Hs.pure ⟨rfl, rfl, rfl, fun _ => rfl, trivial⟩
theorem px_sum (ihT : IX l n 3 pexpr_parser_term (eTerm l n)) (ihL : IL l n (fun K => pexpr_parser_chain_l0 K [43, 45] [1, 2]) (eSumL l n)) : IX l (n + 1) 4 pexpr_parser_sum (eSum l (n + 1)) := by
  intro i hi hn
  refine Hs.step (fun k => by rw [pexpr_parser_sum]) ?_
  suffices h : Hs (fun K => pexpr_parser_chain K l (i : Int) 0 [43, 45] [1, 2]) (QS l TT (eSum l (n + 1) i)) by
    obtain ⟨⟨a, l', i', e'⟩, h1, h2⟩ := h
    exact Hs.evb h1 (Hs.pure h2)
  rw [eSum]
  refine Hs.step (fun k => by rw [pexpr_parser_chain]) ?_
  have b := e_bd_eTerm hl n (i) (by omega)
  have p := ihT (i) (by omega) (by omega)
  generalize eTerm l n (i) = g1 at *
  obtain ⟨g1a, g1b, g1c⟩ := b
  refine Hs.par p (fun h1 _ => ?_) (fun a _ he => ?_)
  rotate_left
  · repeat' first
      | exact Hs.pure ⟨rfl, rfl, rfl, fun h => absurd h he, trivial⟩
      | exact Hs.ev (xc1_err l _ _ he _) ⟨rfl, rfl, rfl, fun h => absurd h he, trivial⟩
  have g1c := g1c h1
  exact ihL g1.2.1 (by omega) (by omega) _
theorem px_suml (ihT : IX l n 3 pexpr_parser_term (eTerm l n)) (ihL : IL l n (fun K => pexpr_parser_chain_l0 K [43, 45] [1, 2]) (eSumL l n)) : IL l (n + 1) (fun K => pexpr_parser_chain_l0 K [43, 45] [1, 2]) (eSumL l (n + 1)) := by
  intro i hi hn a
  rw [eSumL]
  show Hs (fun K => pexpr_parser_chain_l0 K [43, 45] [1, 2] a l (i : Int) 0) _
  refine Hs.step (fun k => by rw [pexpr_parser_chain_l0]) ?_
  refine Hs.step (fun k => by rw [pexpr_parser_chain_l1]) ?_
  refine Hs.d (fun _ => ?_) (fun h => absurd (by decide) h)
  refine Hs.opt (a := [43]) rfl ?_
  by_cases k0 : keyS l (i : Int) [43] = true
  · rw [if_pos k0]
    have hin := key_in k0
    refine Hs.evb (xkey_t hl k0) ?_
    refine Hs.isF rfl ?_
    refine Hs.d (fun h => absurd h (by decide)) (fun _ => ?_)
    refine Hs.opt (a := 1) rfl ?_
    have b := e_bd_eTerm hl n (i + 1) (by omega)
    have p := ihT (i + 1) (by omega) (by omega)
    generalize eTerm l n (i + 1) = g1 at *
    obtain ⟨g1a, g1b, g1c⟩ := b
    refine Hs.par p (fun h1 _ => ?_) (fun a _ he => ?_)
    rotate_left
    · repeat' first
        | exact Hs.pure ⟨rfl, rfl, rfl, fun h => absurd h he, trivial⟩
        | refine Hs.evb (opX ..) ?_
        | exact Hs.ev (xc1_err l _ _ he _) ⟨rfl, rfl, rfl, fun h => absurd h he, trivial⟩
    have g1c := g1c h1
    refine Hs.evb (opX ..) ?_
    exact ihL g1.2.1 (by omega) (by omega) _
  rw [if_neg k0]
  refine Hs.evb (xkey_f (by simpa using k0)) ?_
  refine Hs.isT rfl ?_
  refine Hs.step (fun k => by rw [pexpr_parser_chain_l1]) ?_
  refine Hs.d (fun _ => ?_) (fun h => absurd (by decide) h)
  refine Hs.opt (a := [45]) rfl ?_
  by_cases k1 : keyS l (i : Int) [45] = true
  · rw [if_pos k1]
    have hin := key_in k1
    refine Hs.evb (xkey_t hl k1) ?_
    refine Hs.isF rfl ?_
    refine Hs.d (fun h => absurd h (by decide)) (fun _ => ?_)
    refine Hs.opt (a := 2) rfl ?_
    have b := e_bd_eTerm hl n (i + 1) (by omega)
    have p := ihT (i + 1) (by omega) (by omega)
    generalize eTerm l n (i + 1) = g1 at *
    obtain ⟨g1a, g1b, g1c⟩ := b
    refine Hs.par p (fun h1 _ => ?_) (fun a _ he => ?_)
    rotate_left
    · repeat' first
        | exact Hs.pure ⟨rfl, rfl, rfl, fun h => absurd h he, trivial⟩
        | refine Hs.evb (opX ..) ?_
        | exact Hs.ev (xc1_err l _ _ he _) ⟨rfl, rfl, rfl, fun h => absurd h he, trivial⟩
    have g1c := g1c h1
    refine Hs.evb (opX ..) ?_
    exact ihL g1.2.1 (by omega) (by omega) _
  rw [if_neg k1]
  refine Hs.evb (xkey_f (by simpa using k1)) ?_
  refine Hs.isT rfl ?_
  refine Hs.step (fun k => by rw [pexpr_parser_chain_l1]) ?_
  refine Hs.d (fun h => absurd h (by decide)) (fun _ => ?_)
  refine Hs.d (fun _ => ?_) (fun h => absurd (by decide) h)
  exact Hs.pure ⟨rfl, rfl, rfl, fun _ => rfl, trivial⟩
theorem px_term (ihP : IX l n 2 pexpr_parser_app (eApp l n)) (ihL : IL l n (fun K => pexpr_parser_chain_2_l0 K [42] [3]) (eTermL l n)) : IX l (n + 1) 3 pexpr_parser_term (eTerm l (n + 1)) := by
  intro i hi hn
  refine Hs.step (fun k => by rw [pexpr_parser_term]) ?_
  suffices h : Hs (fun K => pexpr_parser_chain_2 K l (i : Int) 0 [42] [3]) (QS l TT (eTerm l (n + 1) i)) by
    obtain ⟨⟨a, l', i', e'⟩, h1, h2⟩ := h
    exact Hs.evb h1 (Hs.pure h2)
  rw [eTerm]
  refine Hs.step (fun k => by rw [pexpr_parser_chain_2]) ?_
  have b := e_bd_eApp hl n (i) (by omega)
  have p := ihP (i) (by omega) (by omega)
  generalize eApp l n (i) = g1 at *
  obtain ⟨g1a, g1b, g1c⟩ := b
  refine Hs.par p (fun h1 _ => ?_) (fun a _ he => ?_)
  rotate_left
  · repeat' first
      | exact Hs.pure ⟨rfl, rfl, rfl, fun h => absurd h he, trivial⟩
      | exact Hs.ev (xc2_err l _ _ he _) ⟨rfl, rfl, rfl, fun h => absurd h he, trivial⟩
  have g1c := g1c h1
  exact ihL g1.2.1 (by omega) (by omega) _
theorem px_terml (ihP : IX l n 2 pexpr_parser_app (eApp l n)) (ihL : IL l n (fun K => pexpr_parser_chain_2_l0 K [42] [3]) (eTermL l n)) : IL l (n + 1) (fun K => pexpr_parser_chain_2_l0 K [42] [3]) (eTermL l (n + 1)) := by
  intro i hi hn a
  rw [eTermL]
  show Hs (fun K => pexpr_parser_chain_2_l0 K [42] [3] a l (i : Int) 0) _
  refine Hs.step (fun k => by rw [pexpr_parser_chain_2_l0]) ?_
  refine Hs.step (fun k => by rw [pexpr_parser_chain_2_l1]) ?_
  refine Hs.d (fun _ => ?_) (fun h => absurd (by decide) h)
  refine Hs.opt (a := [42]) rfl ?_
  by_cases k0 : keyS l (i : Int) [42] = true
  · rw [if_pos k0]
    have hin := key_in k0
    refine Hs.evb (xkey_t hl k0) ?_
    refine Hs.isF rfl ?_
    refine Hs.d (fun h => absurd h (by decide)) (fun _ => ?_)
    refine Hs.opt (a := 3) rfl ?_
    have b := e_bd_eApp hl n (i + 1) (by omega)
    have p := ihP (i + 1) (by omega) (by omega)
    generalize eApp l n (i + 1) = g1 at *
    obtain ⟨g1a, g1b, g1c⟩ := b
    refine Hs.par p (fun h1 _ => ?_) (fun a _ he => ?_)
    rotate_left
    · repeat' first
        | exact Hs.pure ⟨rfl, rfl, rfl, fun h => absurd h he, trivial⟩
        | refine Hs.evb (opX ..) ?_
        | exact Hs.ev (xc2_err l _ _ he _) ⟨rfl, rfl, rfl, fun h => absurd h he, trivial⟩
    have g1c := g1c h1
    refine Hs.evb (opX ..) ?_
    exact ihL g1.2.1 (by omega) (by omega) _
  rw [if_neg k0]
  refine Hs.evb (xkey_f (by simpa using k0)) ?_
  refine Hs.isT rfl ?_
  refine Hs.step (fun k => by rw [pexpr_parser_chain_2_l1]) ?_
  refine Hs.d (fun h => absurd h (by decide)) (fun _ => ?_)
  refine Hs.d (fun _ => ?_) (fun h => absurd (by decide) h)
  exact Hs.pure ⟨rfl, rfl, rfl, fun _ => rfl, trivial⟩
theorem px_app (ihO : IX l n 1 pexpr_parser_atom (eAtom l n)) (ihL : IL l n pexpr_parser_app_l0 (eAppL l n)) : IX l (n + 1) 2 pexpr_parser_app (eApp l (n + 1)) := by
  intro i hi hn
  rw [eApp]
  refine Hs.step (fun k => by rw [pexpr_parser_app]) ?_
  have b := e_bd_eAtom hl n (i) (by omega)
  have p := ihO (i) (by omega) (by omega)
  generalize eAtom l n (i) = g1 at *
  obtain ⟨g1a, g1b, g1c⟩ := b
  refine Hs.par p (fun h1 _ => ?_) (fun a _ he => ?_)
  rotate_left
  · repeat' first
      | exact Hs.pure ⟨rfl, rfl, rfl, fun h => absurd h he, trivial⟩
      | exact Hs.ev (xappl_err l _ _ he _) ⟨rfl, rfl, rfl, fun h => absurd h he, trivial⟩
  have g1c := g1c h1
  exact ihL g1.2.1 (by omega) (by omega) _
theorem px_appl (ihO : IX l n 1 pexpr_parser_atom (eAtom l n)) (ihL : IL l n pexpr_parser_app_l0 (eAppL l n)) : IL l (n + 1) pexpr_parser_app_l0 (eAppL l (n + 1)) := by
  intro i hi hn a
  rw [eAppL]
  refine Hs.step (fun k => by rw [pexpr_parser_app_l0]) ?_
  refine Hs.evb (xstarts hl hi) ?_
  by_cases k0 : stS l i = true
  · rw [if_pos k0]
    have hin := st_in k0
    refine Hs.isT k0 ?_
    have b := e_bd_eAtom hl n (i) (by omega)
    have p := ihO (i) (by omega) (by omega)
    generalize eAtom l n (i) = g1 at *
    obtain ⟨g1a, g1b, g1c⟩ := b
    refine Hs.par p (fun h1 _ => ?_) (fun a _ he => ?_)
    rotate_left
    · repeat' first
        | exact Hs.pure ⟨rfl, rfl, rfl, fun h => absurd h he, trivial⟩
        | refine Hs.evb (nodeX ..) ?_
        | exact Hs.ev (xappl_err l _ _ he _) ⟨rfl, rfl, rfl, fun h => absurd h he, trivial⟩
    have g1c := g1c h1
    refine Hs.evb (nodeX ..) ?_
    exact ihL g1.2.1 (by omega) (by omega) _
  rw [if_neg k0]
  refine Hs.isF (by simpa using k0) ?_
  exact Hs.pure ⟨rfl, rfl, rfl, fun _ => rfl, trivial⟩
theorem px_atom (ihO : IX l n 1 pexpr_parser_atom (eAtom l n)) (ihE : IX l n 6 pexpr_parser_expr (eExpr l n)) : IX l (n + 1) 1 pexpr_parser_atom (eAtom l (n + 1)) := by
  intro i hi hn
  rw [eAtom]
  refine Hs.step (fun k => by rw [pexpr_parser_atom]) ?_
  refine Hs.evb (xstarts hl hi) ?_
  by_cases k0 : stS l i = true
  · rw [if_pos k0]
    have hin := st_in k0
    have hw := wr1 (i := i) (by omega)
    refine Hs.isF (by rw [k0]; rfl) ?_
    obtain ⟨k, _, hg, hk⟩ := tok_some (l := l) (i := (i : Int)) (by omega)
    rw [hk]
    refine Hs.opt hg ?_
    simp only
    refine Hs.d (fun c => ?_) (fun c0 => ?_)
    · rw [if_pos c]; exact Hs.pure ⟨rfl, hw, rfl, fun _ => rfl, trivial⟩
    rw [if_neg c0]
    refine Hs.d (fun c => ?_) (fun c1 => ?_)
    · rw [if_pos c]; exact Hs.evb (nodeX ..) (Hs.pure ⟨rfl, hw, rfl, fun _ => rfl, trivial⟩)
    rw [if_neg c1]
    refine Hs.d (fun c => ?_) (fun c2 => ?_)
    · rw [if_pos c]; exact Hs.pure ⟨rfl, hw, rfl, fun _ => rfl, trivial⟩
    rw [if_neg c2]
    refine Hs.d (fun c => ?_) (fun c3 => ?_)
    · rw [if_pos c]; exact Hs.evb (nodeX ..) (Hs.pure ⟨rfl, hw, rfl, fun _ => rfl, trivial⟩)
    rw [if_neg c3]
    refine Hs.d (fun c => ?_) (fun c4 => ?_)
    · rw [if_pos c, hw]
      have b := e_bd_eAtom hl n (i + 1) (by omega)
      have p := ihO (i + 1) (by omega) (by omega)
      generalize eAtom l n (i + 1) = g1 at *
      obtain ⟨g1a, g1b, g1c⟩ := b
      refine Hs.par p (fun h1 _ => ?_) (fun a _ he => ?_)
      rotate_left
      · repeat' first
          | exact Hs.pure ⟨rfl, rfl, rfl, fun h => absurd h he, trivial⟩
          | refine Hs.evb (nodeX ..) ?_
      have g1c := g1c h1
      exact Hs.evb (nodeX ..) (Hs.pure ⟨rfl, rfl, rfl, fun _ => rfl, trivial⟩)
    rw [if_neg c4]
    refine Hs.d (fun c => ?_) (fun c5 => ?_)
    · rw [if_pos c, hw]
      have b := e_bd_eAtom hl n (i + 1) (by omega)
      have p := ihO (i + 1) (by omega) (by omega)
      generalize eAtom l n (i + 1) = g1 at *
      obtain ⟨g1a, g1b, g1c⟩ := b
      refine Hs.par p (fun h1 _ => ?_) (fun a _ he => ?_)
      rotate_left
      · repeat' first
          | exact Hs.pure ⟨rfl, rfl, rfl, fun h => absurd h he, trivial⟩
          | refine Hs.evb (nodeX ..) ?_
      have g1c := g1c h1
      exact Hs.evb (nodeX ..) (Hs.pure ⟨rfl, rfl, rfl, fun _ => rfl, trivial⟩)
    rw [if_neg c5]
    rw [hw]
    refine Hs.step (fun k => by rw [pexpr_parser_atom_c0]) ?_
    by_cases k1 : keyS l ((i + 1 : Nat) : Int) [41] = true
    · rw [if_pos k1]
      have hin := key_in k1
      refine Hs.evb (xkey_t hl k1) ?_
      refine Hs.isT rfl ?_
      exact Hs.evb (nodeX ..) (Hs.pure ⟨rfl, rfl, rfl, fun _ => rfl, trivial⟩)
    rw [if_neg k1]
    refine Hs.evb (xkey_f (by simpa using k1)) ?_
    refine Hs.isF rfl ?_
    have b := e_bd_eExpr hl n (i + 1) (by omega)
    have p := ihE (i + 1) (by omega) (by omega)
    generalize eExpr l n (i + 1) = g1 at *
    obtain ⟨g1a, g1b, g1c⟩ := b
    refine Hs.par p (fun h1 _ => ?_) (fun a _ he => ?_)
    rotate_left
    · repeat' first
        | exact Hs.pure ⟨rfl, rfl, rfl, fun h => absurd h he, trivial⟩
        | refine Hs.evb (xmust_err l _ _ he _ (by decide)) ?_
        | refine Hs.evb (nodeX ..) ?_
        | refine Hs.evb (xkey_err l _ _ he _) ?_
        | refine Hs.isF rfl ?_
        | refine Hs.isT rfl ?_
    have g1c := g1c h1
    by_cases k2 : keyS l (g1.2.1 : Int) [44] = true
    · rw [if_pos k2]
      have hin := key_in k2
      refine Hs.evb (xkey_t hl k2) ?_
      refine Hs.isT rfl ?_
      have b := e_bd_eExpr hl n (g1.2.1 + 1) (by omega)
      have p := ihE (g1.2.1 + 1) (by omega) (by omega)
      generalize eExpr l n (g1.2.1 + 1) = g2 at *
      obtain ⟨g2a, g2b, g2c⟩ := b
      refine Hs.par p (fun h2 _ => ?_) (fun a _ he => ?_)
      rotate_left
      · repeat' first
          | exact Hs.pure ⟨rfl, rfl, rfl, fun h => absurd h he, trivial⟩
          | refine Hs.evb (xmust_err l _ _ he _ (by decide)) ?_
          | refine Hs.evb (nodeX ..) ?_
      have g2c := g2c h2
      refine Hs.evb (nodeX ..) ?_
      have b := bw_ks l [[41]] (g2.2.1) (by omega)
      have p := xmust hl [[41]] (by decide) (g2.2.1)
      generalize ks l [[41]] (g2.2.1) = g3 at *
      obtain ⟨g3a, g3b⟩ := b
      refine Hs.parU p (fun h3 => ?_) (fun he => ?_)
      rotate_left
      · exact Hs.pure ⟨rfl, rfl, rfl, fun h => absurd h he, trivial⟩
      exact Hs.pure ⟨rfl, rfl, rfl, fun _ => rfl, trivial⟩
    rw [if_neg k2]
    refine Hs.evb (xkey_f (by simpa using k2)) ?_
    refine Hs.isF rfl ?_
    have b := bw_ks l [[41]] (g1.2.1) (by omega)
    have p := xmust hl [[41]] (by decide) (g1.2.1)
    generalize ks l [[41]] (g1.2.1) = g2 at *
    obtain ⟨g2a, g2b⟩ := b
    refine Hs.parU p (fun h2 => ?_) (fun he => ?_)
    rotate_left
    · exact Hs.pure ⟨rfl, rfl, rfl, fun h => absurd h he, trivial⟩
    exact Hs.pure ⟨rfl, rfl, rfl, fun _ => rfl, trivial⟩
  · rw [if_neg k0]
    refine Hs.isT (by simpa using k0) ?_
    refine Hs.evb (xfail0 l _ _) ?_
    exact Hs.pure ⟨rfl, rfl, rfl, fun _ => rfl, trivial⟩
omit hl in
theorem ix_zero {c : Nat} {f : Nat → List Token → Int → Int → Option (Tr × List Token × Int × Int)} {g : Nat → RT} (hc : 0 < c) : IX l 0 c f g := fun j _ h => by omega
omit hl in
theorem il_zero {f : Nat → Tr → List Token → Int → Int → Option (Tr × List Token × Int × Int)} {g : Tr → Nat → RT} : IL l 0 f g := fun j _ h => by omega
/-- the program's parser, whole -/
theorem px_all : ∀ n, IX l n 6 pexpr_parser_expr (eExpr l n) ∧ IA l n ∧ IX l n 5 pexpr_parser_cmp (eCmp l n) ∧ IX l n 4 pexpr_parser_sum (eSum l n) ∧ IL l n (fun K => pexpr_parser_chain_l0 K [43, 45] [1, 2]) (eSumL l n) ∧
    IX l n 3 pexpr_parser_term (eTerm l n) ∧ IL l n (fun K => pexpr_parser_chain_2_l0 K [42] [3]) (eTermL l n) ∧ IX l n 2 pexpr_parser_app (eApp l n) ∧ IL l n pexpr_parser_app_l0 (eAppL l n) ∧ IX l n 1 pexpr_parser_atom (eAtom l n) := by
  intro n
  induction n with
  | zero => exact ⟨ix_zero (by decide), fun j _ h => by omega, ix_zero (by decide), ix_zero (by decide), il_zero, ix_zero (by decide), il_zero, ix_zero (by decide), il_zero, ix_zero (by decide)⟩
  | succ n ih =>
    obtain ⟨i1, i2, i3, i4, i5, i6, i7, i8, i9, i10⟩ := ih
    exact ⟨px_expr hl i1 i2 i3, px_arms hl i1 i2, px_cmp hl i4, px_sum hl i6 i5, px_suml hl i6 i5, px_term hl i8 i7, px_terml hl i8 i7, px_app hl i10 i9, px_appl hl i10 i9, px_atom hl i10 i1⟩
end
end Go.Proofs.YtnogkihchgnbcaaGreatDoor

/- The program's parser of expressions, at any place. -/
namespace Go.Proofs.YtnogkihchgnbcaaGreatDoor
open Go Go.Am Go.Sx
/-- the answer of a parser: no tree behind an error -/
def ansE (g : RT) : Tr × Int × Int := (if g.2.2 = 0 then g.1 else .nil, ((g.2.1 : Nat) : Int), g.2.2)
section
variable {l : List Token} (hl : l.length ≤ 20000)
include hl
theorem expr_p {n i : Nat} (hi : i ≤ l.length) (hn : 8 * (l.length - i) + 6 ≤ n) : Ev (fun K => pexpr_Expr K l (i : Int)) (ansE (eExpr l n i)) := by
  obtain ⟨⟨a, l', i', e'⟩, h1, h2, h3, h4, h5, _⟩ := (px_all hl n).1 i hi hn
  simp only at h2 h3 h4 h5
  subst h2 h3 h4
  refine Ev.congr (f := fun K => _) ?_ (fun k => by rw [pexpr_Expr])
  refine Ev.dF (by omega) ?_
  refine Ev.dF (by omega) ?_
  refine Ev.bind h1 ?_
  unfold ansE
  refine Ev.n (fun he => Ev.pure' (by rw [if_neg he])) (fun he => Ev.pure' (by rw [if_pos he, he, h5 he]))
end
end Go.Proofs.YtnogkihchgnbcaaGreatDoor

