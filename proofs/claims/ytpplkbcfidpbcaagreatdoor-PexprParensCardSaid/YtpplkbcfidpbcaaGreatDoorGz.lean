/- Joined texts: Z1, Z2, Z3. -/
import Derived.Test.YtpplkbcfidpbcaaGreatDoorGw
import Derived.Test.YtpplkbcfidpbcaaGreatDoorGy
/- A list of tokens within another one, with a sign behind it: types. -/
namespace Go.Proofs.YtpplkbcfidpbcaaGreatDoor
open Go Go.Am Go.Sx
/-- the one list stands in the other, from a place on; the sign behind it is ) or a comma -/
structure Ext (l l' : List Token) (p : Nat) : Prop where
  tk : ∀ i : Nat, i < l.length → tokAt l' ((i + p : Nat) : Int) = tokAt l (i : Int)
  fin : ∃ k : Token, tokAt l' ((l.length + p : Nat) : Int) = some k ∧ k.1 = 3 ∧ (k.2.1 = [41] ∨ k.2.1 = [44])
section
variable {l l' : List Token} {p : Nat} (hx : Ext l l' p)
include hx
theorem Ext.key_in {i : Nat} (h : i < l.length) (t : List UInt8) : keyS l' ((i + p : Nat) : Int) t = keyS l (i : Int) t := by unfold keyS; rw [hx.tk i h]
theorem Ext.key {i : Nat} (h : i ≤ l.length) {t : List UInt8} (ht : t ≠ [41] ∧ t ≠ [44]) : keyS l' ((i + p : Nat) : Int) t = keyS l (i : Int) t := by
  rcases Nat.lt_or_ge i l.length with h1 | h1
  · exact hx.key_in h1 t
  · obtain rfl : i = l.length := by omega
    obtain ⟨k, h2, h3, h4⟩ := hx.fin
    unfold keyS
    rw [tok_none (l := l) (by omega), h2]
    simp only
    have hn : ¬ k.2.1 = t := by
      rcases h4 with e | e
      · rw [e]; exact fun e' => ht.1 e'.symm
      · rw [e]; exact fun e' => ht.2 e'.symm
    rw [decide_eq_false hn, Bool.and_false]
theorem Ext.key_t {i : Nat} {t : List UInt8} (h : keyS l (i : Int) t = true) : keyS l' ((i + p : Nat) : Int) t = true := by
  have := Go.Proofs.YtpplkbcfidpbcaaGreatDoor.key_in h
  rw [hx.key_in (by omega), h]
theorem Ext.name {i : Nat} (h : i ≤ l.length) : nameS l' ((i + p : Nat) : Int) = nameS l (i : Int) := by
  rcases Nat.lt_or_ge i l.length with h1 | h1
  · unfold nameS; rw [hx.tk i h1]
  · obtain rfl : i = l.length := by omega
    obtain ⟨k, h2, h3, h4⟩ := hx.fin
    unfold nameS
    rw [tok_none (l := l) (by omega), h2]
    simp only
    rw [if_neg (by omega)]
theorem Ext.long {i : Nat} (h : i ≤ l.length) : longS l' ((i + p : Nat) : Int) = longS l (i : Int) := by
  rcases Nat.lt_or_ge i l.length with h1 | h1
  · unfold longS; rw [hx.tk i h1]
  · obtain rfl : i = l.length := by omega
    obtain ⟨k, h2, h3, h4⟩ := hx.fin
    unfold longS
    rw [tok_none (l := l) (by omega), h2]
    simp only
    rw [if_neg (by omega)]
theorem Ext.start {i : Nat} (h : i ≤ l.length) : stS l' (i + p) = stS l i := by
  rcases Nat.lt_or_ge i l.length with h1 | h1
  · unfold stS; rw [hx.tk i h1]
  · obtain rfl : i = l.length := by omega
    obtain ⟨k, h2, h3, h4⟩ := hx.fin
    unfold stS
    rw [tok_none (l := l) (by omega), h2]
    simp only
    rw [if_pos h3]
    rcases h4 with e | e <;> rw [e] <;> decide
end
/-- the answer in the other list, if there is one -/
def To {α : Type} (l : List Token) (p i : Nat) (r r' : α × Nat × Int) : Prop := r.2.2 = 0 → r' = (r.1, r.2.1 + p, 0) ∧ i ≤ r.2.1 ∧ r.2.1 ≤ l.length
theorem to_no {α : Type} {l : List Token} {p i j : Nat} {a : α} {e : Int} {r' : α × Nat × Int} (h : e ≠ 0) : To l p i (a, j, e) r' := fun h0 => absurd h0 h
theorem to_ok {α : Type} {l : List Token} {p i j : Nat} {a : α} (h1 : i ≤ j) (h2 : j ≤ l.length) : To l p i (a, j, 0) (a, j + p, 0) := fun _ => ⟨rfl, h1, h2⟩
section
variable {l l' : List Token} {p : Nat} (hx : Ext l l' p)
include hx
theorem ext_ty : ∀ n n' i, n ≤ n' → i ≤ l.length → To l p i (typS l n i) (typS l' n' (i + p)) ∧ To l p i (prodS l n i) (prodS l' n' (i + p)) ∧ To l p i (atomS l n i) (atomS l' n' (i + p)) ∧ ∀ out, To l p i (consS l n i out) (consS l' n' (i + p) out) := by
  intro n
  induction n with
  | zero =>
    intro n' i _ _
    refine ⟨?_, ?_, ?_, fun out => ?_⟩
    · rw [typS]; exact to_no (by decide)
    · rw [prodS]; exact to_no (by decide)
    · rw [atomS]; exact to_no (by decide)
    · rw [consS]; exact to_no (by decide)
  | succ n ih =>
    intro n' i hn hi
    obtain ⟨n', rfl⟩ : ∃ q, n' = q + 1 := ⟨n' - 1, by omega⟩
    have ihT : ∀ j, j ≤ l.length → To l p j (typS l n j) (typS l' n' (j + p)) := fun j h => (ih n' j (by omega) h).1
    have ihP : ∀ j, j ≤ l.length → To l p j (prodS l n j) (prodS l' n' (j + p)) := fun j h => (ih n' j (by omega) h).2.1
    have ihO : ∀ j, j ≤ l.length → To l p j (atomS l n j) (atomS l' n' (j + p)) := fun j h => (ih n' j (by omega) h).2.2.1
    have ihC : ∀ j, j ≤ l.length → ∀ out, To l p j (consS l n j out) (consS l' n' (j + p) out) := fun j h => (ih n' j (by omega) h).2.2.2
    refine ⟨?_, ?_, ?_, fun out => ?_⟩
    · rw [typS, typS]
      have h := ihP i hi
      generalize prodS l n i = g at *
      generalize prodS l' n' (i + p) = g' at *
      obtain ⟨a, j, e⟩ := g
      by_cases he : e = 0
      · subst he
        obtain ⟨rfl, h1, h2⟩ := h rfl
        simp only at h1 h2
        simp only [if_true]
        rw [hx.key h2 (by decide)]
        by_cases hk : keyS l (j : Int) [45, 62] = true
        · have hin := key_in hk
          rw [if_pos hk, if_pos hk]
          have h' := ihT (j + 1) (by omega)
          rw [Nat.add_right_comm j 1 p] at h'
          generalize typS l n (j + 1) = g at *
          generalize typS l' n' (j + p + 1) = g' at *
          obtain ⟨b, j2, e2⟩ := g
          by_cases he2 : e2 = 0
          · subst he2
            obtain ⟨rfl, h3, h4⟩ := h' rfl
            simp only at h3 h4
            simp only [if_true]
            exact to_ok (by omega) h4
          · simp only; exact to_no he2
        · rw [if_neg hk, if_neg hk]; exact to_ok h1 h2
      · simp only [if_neg he]; exact to_no he
    · rw [prodS, prodS]
      have h := ihO i hi
      generalize atomS l n i = g at *
      generalize atomS l' n' (i + p) = g' at *
      obtain ⟨a, j, e⟩ := g
      by_cases he : e = 0
      · subst he
        obtain ⟨rfl, h1, h2⟩ := h rfl
        simp only at h1 h2
        simp only [if_true]
        rw [hx.key h2 (by decide)]
        by_cases hk : keyS l (j : Int) [42] = true
        · have hin := key_in hk
          rw [if_pos hk, if_pos hk]
          have h' := ihP (j + 1) (by omega)
          rw [Nat.add_right_comm j 1 p] at h'
          generalize prodS l n (j + 1) = g at *
          generalize prodS l' n' (j + p + 1) = g' at *
          obtain ⟨b, j2, e2⟩ := g
          by_cases he2 : e2 = 0
          · subst he2
            obtain ⟨rfl, h3, h4⟩ := h' rfl
            simp only at h3 h4
            simp only [if_true]
            exact to_ok (by omega) h4
          · simp only; exact to_no he2
        · rw [if_neg hk, if_neg hk]; exact to_ok h1 h2
      · simp only [if_neg he]; exact to_no he
    · rw [atomS, atomS, hx.long hi, hx.key hi (by decide), hx.key hi (by decide), hx.key hi (by decide), hx.key hi (by decide), hx.key hi (by decide)]
      have fin : ∀ {t : Tr} {w : Nat}, i < l.length → To l p i (t, i + 1, 0) (t, i + p + 1, 0) := fun {t} {w} h => by
        rw [Nat.add_right_comm i p 1]; exact to_ok (by omega) (by omega)
      by_cases k0 : (longS l (i : Int)).2 = true
      · have hin := long_in k0
        rw [if_pos k0, if_pos k0]; exact fin (w := 0) (by omega)
      rw [if_neg k0, if_neg k0]
      by_cases k1 : keyS l (i : Int) [105, 110, 116] = true
      · have hin := key_in k1
        rw [if_pos k1, if_pos k1]; exact fin (w := 0) (by omega)
      rw [if_neg k1, if_neg k1]
      by_cases k2 : keyS l (i : Int) [98, 111, 111, 108] = true
      · have hin := key_in k2
        rw [if_pos k2, if_pos k2]; exact fin (w := 0) (by omega)
      rw [if_neg k2, if_neg k2]
      by_cases k3 : keyS l (i : Int) [117, 110, 105, 116] = true
      · have hin := key_in k3
        rw [if_pos k3, if_pos k3]; exact fin (w := 0) (by omega)
      rw [if_neg k3, if_neg k3]
      by_cases k4 : keyS l (i : Int) [40] = true
      · have hin := key_in k4
        rw [if_pos k4, if_pos k4]
        have h' := ihT (i + 1) (by omega)
        rw [Nat.add_right_comm i 1 p] at h'
        generalize typS l n (i + 1) = g at *
        generalize typS l' n' (i + p + 1) = g' at *
        obtain ⟨t, j, e⟩ := g
        by_cases he : e = 0
        · subst he
          obtain ⟨rfl, h3, h4⟩ := h' rfl
          simp only at h3 h4
          simp only [if_true]
          by_cases kc : keyS l (j : Int) [41] = true
          · have hin2 := key_in kc
            rw [if_pos kc, if_pos (hx.key_t kc), Nat.add_right_comm j p 1]
            exact to_ok (by omega) (by omega)
          · rw [if_neg kc]; exact to_no (by decide)
        · simp only [if_neg he]; exact to_no he
      rw [if_neg k4, if_neg k4]
      by_cases k5 : keyS l (i : Int) [109, 117] = true
      · have hin := key_in k5
        rw [if_pos k5, if_pos k5]
        have e1 := hx.name (i := i + 1) (by omega)
        rw [Nat.add_right_comm i 1 p] at e1
        rw [e1]
        by_cases k6 : (nameS l ((i + 1 : Nat) : Int)).2 = true
        · have hin6 := name_in k6
          rw [if_pos k6, if_pos k6]
          have e2 := hx.key (i := i + 2) (by omega) (t := [123]) (by decide)
          rw [Nat.add_right_comm i 2 p] at e2
          rw [e2]
          by_cases k7 : keyS l ((i + 2 : Nat) : Int) [123] = true
          · have hin7 := key_in k7
            rw [if_pos k7, if_pos k7]
            have h' := ihC (i + 3) (by omega) []
            rw [Nat.add_right_comm i 3 p] at h'
            generalize consS l n (i + 3) [] = g at *
            generalize consS l' n' (i + p + 3) [] = g' at *
            obtain ⟨c, j, e⟩ := g
            by_cases he : e = 0
            · subst he
              obtain ⟨rfl, h3, h4⟩ := h' rfl
              simp only at h3 h4
              simp only [if_true]
              rw [hx.key h4 (by decide)]
              by_cases kc : keyS l (j : Int) [125] = true
              · have hin2 := key_in kc
                rw [if_pos kc, if_pos kc, Nat.add_right_comm j p 1]
                exact to_ok (by omega) (by omega)
              · rw [if_neg kc]; exact to_no (by decide)
            · simp only [if_neg he]; exact to_no he
          · rw [if_neg k7]; exact to_no (by decide)
        · rw [if_neg k6]; exact to_no (by decide)
      · rw [if_neg k5]; exact to_no (by decide)
    · rw [consS, consS, hx.name hi]
      by_cases k0 : (nameS l (i : Int)).2 = true
      · have hin := name_in k0
        rw [if_pos k0, if_pos k0]
        by_cases k1 : (nameS l (i : Int)).1 ∈ out.map nameOf
        · rw [if_pos k1]; exact to_no (by decide)
        · rw [if_neg k1, if_neg k1]
          have e2 := hx.key (i := i + 1) (by omega) (t := [111, 102]) (by decide)
          rw [Nat.add_right_comm i 1 p] at e2
          rw [e2]
          by_cases k2 : keyS l ((i + 1 : Nat) : Int) [111, 102] = true
          · have hin2 := key_in k2
            rw [if_pos k2, if_pos k2]
            have h' := ihT (i + 2) (by omega)
            rw [Nat.add_right_comm i 2 p] at h'
            generalize typS l n (i + 2) = g at *
            generalize typS l' n' (i + p + 2) = g' at *
            obtain ⟨t, j, e⟩ := g
            by_cases he : e = 0
            · subst he
              obtain ⟨rfl, h3, h4⟩ := h' rfl
              simp only at h3 h4
              simp only [if_true]
              rw [hx.key h4 (by decide)]
              by_cases kc : keyS l (j : Int) [124] = true
              · have hin3 := key_in kc
                rw [if_pos kc, if_pos kc]
                have h5 := ihC (j + 1) (by omega) (out ++ [.node 8 0 (nameS l (i : Int)).1 [] [t]])
                rw [Nat.add_right_comm j 1 p] at h5
                intro h0
                obtain ⟨q1, q2, q3⟩ := h5 h0
                exact ⟨q1, by omega, q3⟩
              · rw [if_neg kc, if_neg kc]
                exact to_ok (by omega) h4
            · simp only [if_neg he]; exact to_no he
          · rw [if_neg k2]; exact to_no (by decide)
      · rw [if_neg k0]; exact to_no (by decide)
end
end Go.Proofs.YtpplkbcfidpbcaaGreatDoor

/- A list of tokens within another one, with a sign behind it: expressions. Printed by gen7/z2.py. -/
namespace Go.Proofs.YtpplkbcfidpbcaaGreatDoor
open Go Go.Am Go.Sx
def Tf {α : Type} (p : Nat) (r r' : α × Nat × Int) : Prop := r.2.2 = 0 → r' = (r.1, r.2.1 + p, 0)
theorem tf_bnd {α β : Type} {p : Nat} {d d' : β} {r r' : α × Nat × Int} {f f' : α → Nat → β × Nat × Int} (h : Tf p r r') (hf : r.2.2 = 0 → Tf p (f r.1 r.2.1) (f' r.1 (r.2.1 + p))) : Tf p (bnd d r f) (bnd d' r' f') := by
  by_cases he : r.2.2 = 0
  · have e := h he
    have e1 : bnd d r f = f r.1 r.2.1 := if_pos he
    have e2 : bnd d' r' f' = f' r.1 (r.2.1 + p) := by rw [e, bnd_ok]
    rw [e1, e2]; exact hf he
  · have e1 : bnd d r f = (d, r.2.1, r.2.2) := if_neg he
    rw [e1]; exact fun h0 => absurd h0 he
theorem tf_no {α β : Type} {p : Nat} {d : β} {r : α × Nat × Int} {f : α → Nat → β × Nat × Int} {x : β × Nat × Int} (he : r.2.2 ≠ 0) : Tf p (bnd d r f) x := by
  have e1 : bnd d r f = (d, r.2.1, r.2.2) := if_neg he
  rw [e1]; exact fun h0 => absurd h0 he
section
variable {l l' : List Token} {p : Nat} (hx : Ext l l' p)
include hx
theorem ext_ks : ∀ (t : List (List UInt8)) (i : Nat), i ≤ l.length → Tf p (ks l t i) (ks l' t (i + p))
  | [], i, _ => by rw [ks, ks]; exact fun _ => rfl
  | t :: r, i, hi => by
    rw [ks, ks]
    by_cases hk : keyS l (i : Int) t = true
    · have hin := key_in hk
      rw [if_pos hk, if_pos (hx.key_t hk), Nat.add_right_comm i p 1]
      exact ext_ks r (i + 1) (by omega)
    · rw [if_neg hk]; exact fun h => absurd (show (6 : Int) = 0 from h) (by decide)
theorem ext_nm {i : Nat} (hi : i ≤ l.length) : Tf p (nmR l i) (nmR l' (i + p)) := by
  unfold nmR
  rw [hx.name hi]
  by_cases hk : (nameS l (i : Int)).2 = true
  · rw [if_pos hk, if_pos hk, Nat.add_right_comm i p 1]; exact fun _ => rfl
  · rw [if_neg hk]; exact fun h => absurd (show (6 : Int) = 0 from h) (by decide)
theorem ext_tyR (hll : l.length ≤ l'.length) {i : Nat} (hi : i ≤ l.length) : Tf p (tyR l i) (tyR l' (i + p)) := fun h => ((ext_ty hx (3 * l.length + 3) (3 * l'.length + 3) i (by omega) hi).1 h).1
variable (hl : l.length ≤ 1000) (hll : l.length ≤ l'.length)
include hl hll
theorem ext_all : ∀ n i, i ≤ l.length → Tf p (eExpr l n i) (eExpr l' n (i + p)) ∧ (∀ out, Tf p (eArms l n out i) (eArms l' n out (i + p))) ∧ Tf p (eCmp l n i) (eCmp l' n (i + p)) ∧ Tf p (eSum l n i) (eSum l' n (i + p)) ∧ (∀ a, Tf p (eSumL l n a i) (eSumL l' n a (i + p))) ∧
    Tf p (eTerm l n i) (eTerm l' n (i + p)) ∧ (∀ a, Tf p (eTermL l n a i) (eTermL l' n a (i + p))) ∧ Tf p (eApp l n i) (eApp l' n (i + p)) ∧ (∀ a, Tf p (eAppL l n a i) (eAppL l' n a (i + p))) ∧ Tf p (eAtom l n i) (eAtom l' n (i + p)) := by
  intro n
  induction n with
  | zero =>
    intro i hi
    have no : ∀ {α : Type} {d : α} {j : Nat} {x : α × Nat × Int}, Tf p (d, j, 6) x := fun h => absurd (show (6 : Int) = 0 from h) (by decide)
    refine ⟨?_, fun out => ?_, ?_, ?_, fun a => ?_, ?_, fun a => ?_, ?_, fun a => ?_, ?_⟩
    · rw [eExpr]; exact no
    · rw [eArms]; exact no
    · rw [eCmp]; exact no
    · rw [eSum]; exact no
    · rw [eSumL]; exact no
    · rw [eTerm]; exact no
    · rw [eTermL]; exact no
    · rw [eApp]; exact no
    · rw [eAppL]; exact no
    · rw [eAtom]; exact no
  | succ n ih =>
    intro i hi
    have ihE : ∀ j, j ≤ l.length → Tf p (eExpr l n j) (eExpr l' n (j + p)) := fun j h => (ih j h).1
    have ihA : ∀ j, j ≤ l.length → ∀ out, Tf p (eArms l n out j) (eArms l' n out (j + p)) := fun j h => (ih j h).2.1
    have ihC : ∀ j, j ≤ l.length → Tf p (eCmp l n j) (eCmp l' n (j + p)) := fun j h => (ih j h).2.2.1
    have ihS : ∀ j, j ≤ l.length → Tf p (eSum l n j) (eSum l' n (j + p)) := fun j h => (ih j h).2.2.2.1
    have ihSL : ∀ j, j ≤ l.length → ∀ a, Tf p (eSumL l n a j) (eSumL l' n a (j + p)) := fun j h => (ih j h).2.2.2.2.1
    have ihT : ∀ j, j ≤ l.length → Tf p (eTerm l n j) (eTerm l' n (j + p)) := fun j h => (ih j h).2.2.2.2.2.1
    have ihTL : ∀ j, j ≤ l.length → ∀ a, Tf p (eTermL l n a j) (eTermL l' n a (j + p)) := fun j h => (ih j h).2.2.2.2.2.2.1
    have ihP : ∀ j, j ≤ l.length → Tf p (eApp l n j) (eApp l' n (j + p)) := fun j h => (ih j h).2.2.2.2.2.2.2.1
    have ihPL : ∀ j, j ≤ l.length → ∀ a, Tf p (eAppL l n a j) (eAppL l' n a (j + p)) := fun j h => (ih j h).2.2.2.2.2.2.2.2.1
    have ihO : ∀ j, j ≤ l.length → Tf p (eAtom l n j) (eAtom l' n (j + p)) := fun j h => (ih j h).2.2.2.2.2.2.2.2.2
    refine ⟨?_, fun out => ?_, ?_, ?_, fun a => ?_, ?_, fun a => ?_, ?_, fun a => ?_, ?_⟩
    · rw [eExpr, eExpr, hx.key hi (by decide), hx.key hi (by decide), hx.key hi (by decide), hx.key hi (by decide), hx.key hi (by decide)]
      by_cases k_fn : keyS l (i : Int) [102, 110] = true
      · have hin := key_in k_fn
        rw [if_pos k_fn, if_pos k_fn, Nat.add_right_comm i p 1]
        have b := bw_ks l [[40]] (i + 1) (by omega)
        have f := ext_ks hx [[40]] (i + 1) (by omega)
        generalize ks l [[40]] (i + 1) = g1 at *
        obtain ⟨g1a, g1b⟩ := b
        refine tf_bnd f fun h1 => ?_
        have b := bw_nm (l := l) (i := g1.2.1) (by omega)
        have f := ext_nm hx (i := g1.2.1) (by omega)
        generalize nmR l (g1.2.1) = g2 at *
        obtain ⟨g2a, g2b⟩ := b
        refine tf_bnd f fun h2 => ?_
        have b := bw_ks l [[58]] (g2.2.1) (by omega)
        have f := ext_ks hx [[58]] (g2.2.1) (by omega)
        generalize ks l [[58]] (g2.2.1) = g3 at *
        obtain ⟨g3a, g3b⟩ := b
        refine tf_bnd f fun h3 => ?_
        have b := ty_pz hl (i := g3.2.1) (by omega)
        have f := ext_tyR hx hll (i := g3.2.1) (by omega)
        generalize tyR l (g3.2.1) = g4 at *
        obtain ⟨g4a, g4b, _⟩ := b
        refine tf_bnd f fun h4 => ?_
        have b := bw_ks l [[41], [61, 62]] (g4.2.1) (by omega)
        have f := ext_ks hx [[41], [61, 62]] (g4.2.1) (by omega)
        generalize ks l [[41], [61, 62]] (g4.2.1) = g5 at *
        obtain ⟨g5a, g5b⟩ := b
        refine tf_bnd f fun h5 => ?_
        have b := e_bd_eExpr hl n (g5.2.1) (by omega)
        have f := ihE (g5.2.1) (by omega)
        generalize eExpr l n (g5.2.1) = g6 at *
        obtain ⟨g6a, g6b, _⟩ := b
        refine tf_bnd f fun h6 => ?_
        exact fun _ => rfl
      rw [if_neg k_fn, if_neg k_fn]
      by_cases k_let : keyS l (i : Int) [108, 101, 116] = true
      · have hin := key_in k_let
        rw [if_pos k_let, if_pos k_let, Nat.add_right_comm i p 1]
        have b := bw_nm (l := l) (i := i + 1) (by omega)
        have f := ext_nm hx (i := i + 1) (by omega)
        generalize nmR l (i + 1) = g1 at *
        obtain ⟨g1a, g1b⟩ := b
        refine tf_bnd f fun h1 => ?_
        have b := bw_ks l [[61]] (g1.2.1) (by omega)
        have f := ext_ks hx [[61]] (g1.2.1) (by omega)
        generalize ks l [[61]] (g1.2.1) = g2 at *
        obtain ⟨g2a, g2b⟩ := b
        refine tf_bnd f fun h2 => ?_
        have b := e_bd_eExpr hl n (g2.2.1) (by omega)
        have f := ihE (g2.2.1) (by omega)
        generalize eExpr l n (g2.2.1) = g3 at *
        obtain ⟨g3a, g3b, _⟩ := b
        refine tf_bnd f fun h3 => ?_
        have b := bw_ks l [[105, 110]] (g3.2.1) (by omega)
        have f := ext_ks hx [[105, 110]] (g3.2.1) (by omega)
        generalize ks l [[105, 110]] (g3.2.1) = g4 at *
        obtain ⟨g4a, g4b⟩ := b
        refine tf_bnd f fun h4 => ?_
        have b := e_bd_eExpr hl n (g4.2.1) (by omega)
        have f := ihE (g4.2.1) (by omega)
        generalize eExpr l n (g4.2.1) = g5 at *
        obtain ⟨g5a, g5b, _⟩ := b
        refine tf_bnd f fun h5 => ?_
        have b := bw_ks l [[101, 110, 100]] (g5.2.1) (by omega)
        have f := ext_ks hx [[101, 110, 100]] (g5.2.1) (by omega)
        generalize ks l [[101, 110, 100]] (g5.2.1) = g6 at *
        obtain ⟨g6a, g6b⟩ := b
        refine tf_bnd f fun h6 => ?_
        exact fun _ => rfl
      rw [if_neg k_let, if_neg k_let]
      by_cases k_if : keyS l (i : Int) [105, 102] = true
      · have hin := key_in k_if
        rw [if_pos k_if, if_pos k_if, Nat.add_right_comm i p 1]
        have b := e_bd_eExpr hl n (i + 1) (by omega)
        have f := ihE (i + 1) (by omega)
        generalize eExpr l n (i + 1) = g1 at *
        obtain ⟨g1a, g1b, _⟩ := b
        refine tf_bnd f fun h1 => ?_
        have b := bw_ks l [[116, 104, 101, 110]] (g1.2.1) (by omega)
        have f := ext_ks hx [[116, 104, 101, 110]] (g1.2.1) (by omega)
        generalize ks l [[116, 104, 101, 110]] (g1.2.1) = g2 at *
        obtain ⟨g2a, g2b⟩ := b
        refine tf_bnd f fun h2 => ?_
        have b := e_bd_eExpr hl n (g2.2.1) (by omega)
        have f := ihE (g2.2.1) (by omega)
        generalize eExpr l n (g2.2.1) = g3 at *
        obtain ⟨g3a, g3b, _⟩ := b
        refine tf_bnd f fun h3 => ?_
        have b := bw_ks l [[101, 108, 115, 101]] (g3.2.1) (by omega)
        have f := ext_ks hx [[101, 108, 115, 101]] (g3.2.1) (by omega)
        generalize ks l [[101, 108, 115, 101]] (g3.2.1) = g4 at *
        obtain ⟨g4a, g4b⟩ := b
        refine tf_bnd f fun h4 => ?_
        have b := e_bd_eExpr hl n (g4.2.1) (by omega)
        have f := ihE (g4.2.1) (by omega)
        generalize eExpr l n (g4.2.1) = g5 at *
        obtain ⟨g5a, g5b, _⟩ := b
        refine tf_bnd f fun h5 => ?_
        exact fun _ => rfl
      rw [if_neg k_if, if_neg k_if]
      by_cases k_case : keyS l (i : Int) [99, 97, 115, 101] = true
      · have hin := key_in k_case
        rw [if_pos k_case, if_pos k_case, Nat.add_right_comm i p 1]
        have b := e_bd_eExpr hl n (i + 1) (by omega)
        have f := ihE (i + 1) (by omega)
        generalize eExpr l n (i + 1) = g1 at *
        obtain ⟨g1a, g1b, _⟩ := b
        refine tf_bnd f fun h1 => ?_
        have b := bw_ks l [[111, 102]] (g1.2.1) (by omega)
        have f := ext_ks hx [[111, 102]] (g1.2.1) (by omega)
        generalize ks l [[111, 102]] (g1.2.1) = g2 at *
        obtain ⟨g2a, g2b⟩ := b
        refine tf_bnd f fun h2 => ?_
        have b := e_bd_eArms hl n [] (g2.2.1) (by omega)
        have f := ihA (g2.2.1) (by omega) []
        generalize eArms l n [] (g2.2.1) = g3 at *
        obtain ⟨g3a, g3b, _⟩ := b
        refine tf_bnd f fun h3 => ?_
        exact fun _ => rfl
      rw [if_neg k_case, if_neg k_case]
      by_cases k_fold : keyS l (i : Int) [102, 111, 108, 100] = true
      · have hin := key_in k_fold
        rw [if_pos k_fold, if_pos k_fold, Nat.add_right_comm i p 1]
        have b := e_bd_eExpr hl n (i + 1) (by omega)
        have f := ihE (i + 1) (by omega)
        generalize eExpr l n (i + 1) = g1 at *
        obtain ⟨g1a, g1b, _⟩ := b
        refine tf_bnd f fun h1 => ?_
        have b := bw_ks l [[116, 111]] (g1.2.1) (by omega)
        have f := ext_ks hx [[116, 111]] (g1.2.1) (by omega)
        generalize ks l [[116, 111]] (g1.2.1) = g2 at *
        obtain ⟨g2a, g2b⟩ := b
        refine tf_bnd f fun h2 => ?_
        have b := ty_pz hl (i := g2.2.1) (by omega)
        have f := ext_tyR hx hll (i := g2.2.1) (by omega)
        generalize tyR l (g2.2.1) = g3 at *
        obtain ⟨g3a, g3b, _⟩ := b
        refine tf_bnd f fun h3 => ?_
        have b := bw_ks l [[111, 102]] (g3.2.1) (by omega)
        have f := ext_ks hx [[111, 102]] (g3.2.1) (by omega)
        generalize ks l [[111, 102]] (g3.2.1) = g4 at *
        obtain ⟨g4a, g4b⟩ := b
        refine tf_bnd f fun h4 => ?_
        have b := e_bd_eArms hl n [] (g4.2.1) (by omega)
        have f := ihA (g4.2.1) (by omega) []
        generalize eArms l n [] (g4.2.1) = g5 at *
        obtain ⟨g5a, g5b, _⟩ := b
        refine tf_bnd f fun h5 => ?_
        exact fun _ => rfl
      rw [if_neg k_fold, if_neg k_fold]
      exact ihC i hi
    · rw [eArms, eArms]
      have b := bw_nm (l := l) (i := i) (by omega)
      have f := ext_nm hx (i := i) (by omega)
      generalize nmR l (i) = g1 at *
      obtain ⟨g1a, g1b⟩ := b
      refine tf_bnd f fun h1 => ?_
      have b := bw_nm (l := l) (i := g1.2.1) (by omega)
      have f := ext_nm hx (i := g1.2.1) (by omega)
      generalize nmR l (g1.2.1) = g2 at *
      obtain ⟨g2a, g2b⟩ := b
      refine tf_bnd f fun h2 => ?_
      have b := bw_ks l [[61, 62]] (g2.2.1) (by omega)
      have f := ext_ks hx [[61, 62]] (g2.2.1) (by omega)
      generalize ks l [[61, 62]] (g2.2.1) = g3 at *
      obtain ⟨g3a, g3b⟩ := b
      refine tf_bnd f fun h3 => ?_
      have b := e_bd_eExpr hl n (g3.2.1) (by omega)
      have f := ihE (g3.2.1) (by omega)
      generalize eExpr l n (g3.2.1) = g4 at *
      obtain ⟨g4a, g4b, _⟩ := b
      refine tf_bnd f fun h4 => ?_
      rw [hx.key g4b (by decide)]
      by_cases kb : keyS l (g4.2.1 : Int) [124] = true
      · have hin := key_in kb
        rw [if_pos kb, if_pos kb, Nat.add_right_comm g4.2.1 p 1]
        exact ihA (g4.2.1 + 1) (by omega) _
      · rw [if_neg kb, if_neg kb]
        have b := bw_ks l [[101, 110, 100]] (g4.2.1) (by omega)
        have f := ext_ks hx [[101, 110, 100]] (g4.2.1) (by omega)
        generalize ks l [[101, 110, 100]] (g4.2.1) = g5 at *
        obtain ⟨g5a, g5b⟩ := b
        refine tf_bnd f fun h5 => ?_
        exact fun _ => rfl
    · rw [eCmp, eCmp]
      have b := e_bd_eSum hl n (i) (by omega)
      have f := ihS (i) (by omega)
      generalize eSum l n (i) = g1 at *
      obtain ⟨g1a, g1b, _⟩ := b
      refine tf_bnd f fun h1 => ?_
      rw [hx.key g1b (by decide), hx.key g1b (by decide)]
      by_cases k4 : keyS l (g1.2.1 : Int) [61] = true
      · have hin := key_in k4
        rw [if_pos k4, if_pos k4, Nat.add_right_comm g1.2.1 p 1]
        have b := e_bd_eSum hl n (g1.2.1 + 1) (by omega)
        have f := ihS (g1.2.1 + 1) (by omega)
        generalize eSum l n (g1.2.1 + 1) = g2 at *
        obtain ⟨g2a, g2b, _⟩ := b
        refine tf_bnd f fun h2 => ?_
        exact fun _ => rfl
      rw [if_neg k4, if_neg k4]
      by_cases k5 : keyS l (g1.2.1 : Int) [60] = true
      · have hin := key_in k5
        rw [if_pos k5, if_pos k5, Nat.add_right_comm g1.2.1 p 1]
        have b := e_bd_eSum hl n (g1.2.1 + 1) (by omega)
        have f := ihS (g1.2.1 + 1) (by omega)
        generalize eSum l n (g1.2.1 + 1) = g2 at *
        obtain ⟨g2a, g2b, _⟩ := b
        refine tf_bnd f fun h2 => ?_
        exact fun _ => rfl
      rw [if_neg k5, if_neg k5]
      exact fun _ => rfl
    · rw [eSum, eSum]
      have b := e_bd_eTerm hl n (i) (by omega)
      have f := ihT (i) (by omega)
      generalize eTerm l n (i) = g1 at *
      obtain ⟨g1a, g1b, _⟩ := b
      refine tf_bnd f fun h1 => ?_
      exact ihSL g1.2.1 (by omega) g1.1
    · rw [eSumL, eSumL, hx.key hi (by decide), hx.key hi (by decide)]
      by_cases k0 : keyS l (i : Int) [43] = true
      · have hin := key_in k0
        rw [if_pos k0, if_pos k0, Nat.add_right_comm i p 1]
        have b := e_bd_eTerm hl n (i + 1) (by omega)
        have f := ihT (i + 1) (by omega)
        generalize eTerm l n (i + 1) = g1 at *
        obtain ⟨g1a, g1b, _⟩ := b
        refine tf_bnd f fun h1 => ?_
        exact ihSL g1.2.1 (by omega) _
      rw [if_neg k0, if_neg k0]
      by_cases k1 : keyS l (i : Int) [45] = true
      · have hin := key_in k1
        rw [if_pos k1, if_pos k1, Nat.add_right_comm i p 1]
        have b := e_bd_eTerm hl n (i + 1) (by omega)
        have f := ihT (i + 1) (by omega)
        generalize eTerm l n (i + 1) = g1 at *
        obtain ⟨g1a, g1b, _⟩ := b
        refine tf_bnd f fun h1 => ?_
        exact ihSL g1.2.1 (by omega) _
      rw [if_neg k1, if_neg k1]
      exact fun _ => rfl
    · rw [eTerm, eTerm]
      have b := e_bd_eApp hl n (i) (by omega)
      have f := ihP (i) (by omega)
      generalize eApp l n (i) = g1 at *
      obtain ⟨g1a, g1b, _⟩ := b
      refine tf_bnd f fun h1 => ?_
      exact ihTL g1.2.1 (by omega) g1.1
    · rw [eTermL, eTermL, hx.key hi (by decide)]
      by_cases k0 : keyS l (i : Int) [42] = true
      · have hin := key_in k0
        rw [if_pos k0, if_pos k0, Nat.add_right_comm i p 1]
        have b := e_bd_eApp hl n (i + 1) (by omega)
        have f := ihP (i + 1) (by omega)
        generalize eApp l n (i + 1) = g1 at *
        obtain ⟨g1a, g1b, _⟩ := b
        refine tf_bnd f fun h1 => ?_
        exact ihTL g1.2.1 (by omega) _
      rw [if_neg k0, if_neg k0]
      exact fun _ => rfl
    · rw [eApp, eApp]
      have b := e_bd_eAtom hl n (i) (by omega)
      have f := ihO (i) (by omega)
      generalize eAtom l n (i) = g1 at *
      obtain ⟨g1a, g1b, _⟩ := b
      refine tf_bnd f fun h1 => ?_
      exact ihPL g1.2.1 (by omega) g1.1
    · rw [eAppL, eAppL, hx.start hi]
      by_cases k0 : stS l i = true
      · have hin := st_in k0
        rw [if_pos k0, if_pos k0]
        have b := e_bd_eAtom hl n (i) (by omega)
        have f := ihO (i) (by omega)
        generalize eAtom l n (i) = g1 at *
        obtain ⟨g1a, g1b, _⟩ := b
        refine tf_bnd f fun h1 => ?_
        exact ihPL g1.2.1 (by omega) _
      rw [if_neg k0, if_neg k0]
      exact fun _ => rfl
    · rw [eAtom, eAtom, hx.start hi]
      by_cases ks0 : stS l i = true
      · have hin := st_in ks0
        rw [if_pos ks0, if_pos ks0, hx.tk i hin]
        obtain ⟨k, _, _, hk⟩ := tok_some (l := l) (i := (i : Int)) (by omega)
        rw [hk]
        simp only
        have one : ∀ {t : Tr}, Tf p (t, i + 1, 0) (t, i + p + 1, 0) := fun _ => by rw [Nat.add_right_comm i p 1]
        by_cases c0 : k.1 = 2
        · rw [if_pos c0, if_pos c0]; exact one
        rw [if_neg c0, if_neg c0]
        by_cases c1 : k.1 = 1
        · rw [if_pos c1, if_pos c1]; exact one
        rw [if_neg c1, if_neg c1]
        by_cases c2 : k.2.1 = [116, 114, 117, 101]
        · rw [if_pos c2, if_pos c2]; exact one
        rw [if_neg c2, if_neg c2]
        by_cases c3 : k.2.1 = [102, 97, 108, 115, 101]
        · rw [if_pos c3, if_pos c3]; exact one
        rw [if_neg c3, if_neg c3]
        by_cases c4 : k.2.1 = [35, 49]
        · rw [if_pos c4, if_pos c4, Nat.add_right_comm i p 1]
          have b := e_bd_eAtom hl n (i + 1) (by omega)
          have f := ihO (i + 1) (by omega)
          generalize eAtom l n (i + 1) = g1 at *
          obtain ⟨g1a, g1b, _⟩ := b
          refine tf_bnd f fun h1 => ?_
          exact fun _ => rfl
        rw [if_neg c4, if_neg c4]
        by_cases c5 : k.2.1 = [35, 50]
        · rw [if_pos c5, if_pos c5, Nat.add_right_comm i p 1]
          have b := e_bd_eAtom hl n (i + 1) (by omega)
          have f := ihO (i + 1) (by omega)
          generalize eAtom l n (i + 1) = g1 at *
          obtain ⟨g1a, g1b, _⟩ := b
          refine tf_bnd f fun h1 => ?_
          exact fun _ => rfl
        rw [if_neg c5, if_neg c5]
        rw [Nat.add_right_comm i p 1]
        by_cases c6 : keyS l ((i + 1 : Nat) : Int) [41] = true
        · rw [if_pos c6, if_pos (hx.key_t c6)]
          exact fun _ => by rw [Nat.add_right_comm i p 2]
        rw [if_neg c6]
        rcases Nat.lt_or_ge (i + 1) l.length with hlt | hge
        · rw [hx.key_in hlt, if_neg c6]
          have b := e_bd_eExpr hl n (i + 1) (by omega)
          have f := ihE (i + 1) (by omega)
          generalize eExpr l n (i + 1) = g1 at *
          obtain ⟨g1a, g1b, _⟩ := b
          refine tf_bnd f fun h1 => ?_
          by_cases c7 : keyS l (g1.2.1 : Int) [44] = true
          · have hin7 := key_in c7
            rw [if_pos c7, if_pos (hx.key_t c7), Nat.add_right_comm g1.2.1 p 1]
            have b := e_bd_eExpr hl n (g1.2.1 + 1) (by omega)
            have f := ihE (g1.2.1 + 1) (by omega)
            generalize eExpr l n (g1.2.1 + 1) = g2 at *
            obtain ⟨g2a, g2b, _⟩ := b
            refine tf_bnd f fun h2 => ?_
            have b := bw_ks l [[41]] (g2.2.1) (by omega)
            have f := ext_ks hx [[41]] (g2.2.1) (by omega)
            generalize ks l [[41]] (g2.2.1) = g3 at *
            obtain ⟨g3a, g3b⟩ := b
            refine tf_bnd f fun h3 => ?_
            exact fun _ => rfl
          rw [if_neg c7]
          rcases Nat.lt_or_ge g1.2.1 l.length with hlt2 | hge2
          · rw [hx.key_in hlt2, if_neg c7]
            have b := bw_ks l [[41]] (g1.2.1) (by omega)
            have f := ext_ks hx [[41]] (g1.2.1) (by omega)
            generalize ks l [[41]] (g1.2.1) = g2 at *
            obtain ⟨g2a, g2b⟩ := b
            refine tf_bnd f fun h2 => ?_
            exact fun _ => rfl
          · refine tf_no ?_
            rw [ks, if_neg (fun h => (by have := key_in h; omega))]
            show (6 : Int) ≠ 0
            decide
        · have b := e_bd_eExpr hl n (i + 1) (by omega)
          refine tf_no fun h => ?_
          have := b.2.2 h
          have := b.2.1
          omega
      · rw [if_neg ks0]; exact fun h => absurd (show (6 : Int) = 0 from h) (by decide)
end
end Go.Proofs.YtpplkbcfidpbcaaGreatDoor

/- The law PexprParens. -/
namespace Go.Proofs.YtpplkbcfidpbcaaGreatDoor
open Go Go.Am Go.Sx
theorem bnd_of {α β : Type} {d : β} {r : α × Nat × Int} {f : α → Nat → β × Nat × Int} (h : (bnd d r f).2.2 = 0) : r.2.2 = 0 := by
  by_cases he : r.2.2 = 0
  · exact he
  · have e : bnd d r f = (d, r.2.1, r.2.2) := if_neg he
    rw [e] at h; exact absurd h he
theorem tok_nat (l : List Token) (i : Nat) : tokAt l (i : Int) = l[i]? := by
  unfold tokAt
  by_cases h : i < l.length
  · rw [if_pos (by omega), getI_lt h, List.getElem?_eq_getElem h]
  · rw [if_neg (by omega), List.getElem?_eq_none (by omega)]
/-- what is parsed does not begin with a closing sign -/
theorem not_close {l : List Token} {n i : Nat} (h : (eExpr l n i).2.2 = 0) : keyS l (i : Int) [41] = false := by
  cases hk : keyS l (i : Int) [41] with
  | false => rfl
  | true =>
    exfalso
    unfold keyS at hk
    cases hq : tokAt l (i : Int) with
    | none => rw [hq] at hk; cases hk
    | some k =>
      rw [hq] at hk
      simp only [Bool.and_eq_true, decide_eq_true_eq] at hk
      have kf : ∀ s : List UInt8, s ≠ [41] → ¬ keyS l (i : Int) s = true := fun s hs hh => by
        unfold keyS at hh
        rw [hq] at hh
        simp only [Bool.and_eq_true, decide_eq_true_eq] at hh
        exact hs (hh.2.symm.trans hk.2)
      have st : stS l i = false := by
        unfold stS
        rw [hq]
        simp only
        rw [if_pos hk.1, hk.2]
        decide
      cases n with
      | zero => rw [eExpr] at h; exact absurd (show (6 : Int) = 0 from h) (by decide)
      | succ n =>
        rw [eExpr, if_neg (kf _ (by decide)), if_neg (kf _ (by decide)), if_neg (kf _ (by decide)), if_neg (kf _ (by decide)), if_neg (kf _ (by decide))] at h
        cases n with
        | zero => rw [eCmp] at h; exact absurd (show (6 : Int) = 0 from h) (by decide)
        | succ n =>
          rw [eCmp] at h
          have h := bnd_of h
          cases n with
          | zero => rw [eSum] at h; exact absurd (show (6 : Int) = 0 from h) (by decide)
          | succ n =>
            rw [eSum] at h
            have h := bnd_of h
            cases n with
            | zero => rw [eTerm] at h; exact absurd (show (6 : Int) = 0 from h) (by decide)
            | succ n =>
              rw [eTerm] at h
              have h := bnd_of h
              cases n with
              | zero => rw [eApp] at h; exact absurd (show (6 : Int) = 0 from h) (by decide)
              | succ n =>
                rw [eApp] at h
                have h := bnd_of h
                cases n with
                | zero => rw [eAtom] at h; exact absurd (show (6 : Int) = 0 from h) (by decide)
                | succ n =>
                  rw [eAtom, st, if_neg (by simp)] at h
                  exact absurd (show (6 : Int) = 0 from h) (by decide)
/-- an atom with nothing behind it is an expression -/
theorem atom_up {l : List Token} {n i j : Nat} {t : Tr} (hn : 1 ≤ n) (h : eAtom l n i = (t, j, 0)) (hj : l.length ≤ j) (hk : ∀ s : List UInt8, s ≠ [40] → keyS l (i : Int) s = false) : eExpr l (n + 5) i = (t, j, 0) := by
  have kn : ∀ s, keyS l (j : Int) s = false := fun s => by unfold keyS; rw [tok_none (by omega)]
  have sn : stS l j = false := by unfold stS; rw [tok_none (by omega)]
  obtain ⟨n, rfl⟩ : ∃ q, n = q + 1 := ⟨n - 1, by omega⟩
  have h1 : eApp l (n + 2) i = (t, j, 0) := by rw [eApp, h, bnd_ok, eAppL, sn, if_neg (by simp)]
  have h2 : eTerm l (n + 3) i = (t, j, 0) := by rw [eTerm, h1, bnd_ok, eTermL, kn, if_neg (by simp)]
  have h3 : eSum l (n + 4) i = (t, j, 0) := by rw [eSum, h2, bnd_ok, eSumL, kn, if_neg (by simp), kn, if_neg (by simp)]
  have h4 : eCmp l (n + 5) i = (t, j, 0) := by rw [eCmp, h3, bnd_ok, kn, if_neg (by simp), kn, if_neg (by simp)]
  show eExpr l (n + 6) i = (t, j, 0)
  rw [eExpr, hk _ (by decide), if_neg (by simp), hk _ (by decide), if_neg (by simp), hk _ (by decide), if_neg (by simp), hk _ (by decide), if_neg (by simp), hk _ (by decide), if_neg (by simp)]
  exact h4
abbrev sg (b : UInt8) : Token := (3, [b], 0, 0)
section
variable {p : List Token} {t : Tr} {m : Nat}
theorem ext_mk (a : List Token) (p r : List Token) {b : UInt8} (hb : b = 41 ∨ b = 44) : Ext p (a ++ p ++ sg b :: r) a.length := by
  refine ⟨fun i hi => ?_, sg b, ?_, rfl, ?_⟩
  · rw [tok_nat, tok_nat, List.append_assoc, List.getElem?_append_right (by omega), Nat.add_sub_cancel, List.getElem?_append_left hi]
  · rw [tok_nat, List.getElem?_append_right (by simp; omega)]
    simp [Nat.add_comm]
  · rcases hb with rfl | rfl
    · exact .inl rfl
    · exact .inr rfl
/-- how an atom in signs begins -/
theorem atom_open {l : List Token} (h0 : tokAt l 0 = some (sg 40)) (h1 : keyS l ((1 : Nat) : Int) [41] = false) : eAtom l (m + 1) 0 = bnd .nil (eExpr l m 1) fun a i => if keyS l (i : Int) [44] = true then bnd .nil (eExpr l m (i + 1)) fun b i => bnd .nil (ks l [[41]] i) fun _ i => (.node 26 0 [] [] [a, b], i, 0) else bnd .nil (ks l [[41]] i) fun _ i => (a, i, 0) := by
  have st : stS l 0 = true := by
    unfold stS
    rw [show ((0 : Nat) : Int) = 0 from rfl, h0]; decide
  rw [eAtom, st, if_pos rfl, show ((0 : Nat) : Int) = 0 from rfl, h0]
  dsimp only
  rw [if_neg (by decide), if_neg (by decide), if_neg (by decide), if_neg (by decide), if_neg (by decide), if_neg (by decide), h1, if_neg (by simp)]
theorem key0 {l : List Token} (h0 : tokAt l 0 = some (sg 40)) : ∀ s : List UInt8, s ≠ [40] → keyS l ((0 : Nat) : Int) s = false := fun s hs => by
  unfold keyS
  rw [show ((0 : Nat) : Int) = 0 from rfl, h0]
  simp only
  rw [decide_eq_false (p := ([40] : List UInt8) = s) (fun e => hs e.symm), Bool.and_false]
theorem key_sg {l : List Token} {i : Nat} {b : UInt8} (h : tokAt l (i : Int) = some (sg b)) (s : List UInt8) : keyS l (i : Int) s = decide ([b] = s) := by
  unfold keyS; rw [h]; simp
theorem one_ok (hp : p.length ≤ 100) (hm : 1 ≤ m) (h : eExpr p m 0 = (t, p.length, 0)) : eExpr (sg 40 :: (p ++ [sg 41])) (m + 6) 0 = (t, p.length + 2, 0) := by
  have hx := ext_mk [sg 40] p [] (b := 41) (.inl rfl)
  have el : [sg 40] ++ p ++ [sg 41] = sg 40 :: (p ++ [sg 41]) := rfl
  rw [el] at hx
  have hb := e_bd_eExpr (l := p) (by omega) m 0 (by omega)
  rw [h] at hb
  have hpos := (hb.2.2 rfl).1
  simp only at hpos
  have h0 : tokAt (sg 40 :: (p ++ [sg 41])) 0 = some (sg 40) := by
    show tokAt _ ((0 : Nat) : Int) = _
    rw [tok_nat]; rfl
  have hc := not_close (l := p) (n := m) (i := 0) (by rw [h])
  have h1 : keyS (sg 40 :: (p ++ [sg 41])) ((1 : Nat) : Int) [41] = false := by
    have := hx.key_in (i := 0) hpos [41]
    rw [hc] at this
    exact this
  have e1 : eExpr (sg 40 :: (p ++ [sg 41])) m 1 = (t, p.length + 1, 0) := by
    have := (ext_all hx (by omega) (by simp; omega) m 0 (by omega)).1 (by rw [h])
    rw [h] at this
    exact this
  have ht : tokAt (sg 40 :: (p ++ [sg 41])) ((p.length + 1 : Nat) : Int) = some (sg 41) := by
    rw [tok_nat, List.getElem?_cons_succ, List.getElem?_append_right (Nat.le_refl _)]; simp
  have ha : eAtom (sg 40 :: (p ++ [sg 41])) (m + 1) 0 = (t, p.length + 2, 0) := by
    rw [atom_open h0 h1, e1, bnd_ok, key_sg ht, if_neg (by decide), ks, key_sg ht, if_pos (by decide), ks, bnd_ok]
  exact atom_up (by omega) ha (by simp) (key0 h0)
variable {q : List Token} {u : Tr}
theorem two_ok (hp : p.length ≤ 100) (hq : q.length ≤ 100) (hm : 1 ≤ m) (h : eExpr p m 0 = (t, p.length, 0)) (h' : eExpr q m 0 = (u, q.length, 0)) : eExpr (sg 40 :: (p ++ sg 44 :: (q ++ [sg 41]))) (m + 6) 0 = (.node 26 0 [] [] [t, u], p.length + q.length + 3, 0) := by
  have hx := ext_mk [sg 40] p (q ++ [sg 41]) (b := 44) (.inr rfl)
  have hy := ext_mk (sg 40 :: (p ++ [sg 44])) q [] (b := 41) (.inl rfl)
  have e2 : (sg 40 :: (p ++ [sg 44])) ++ q ++ [sg 41] = sg 40 :: (p ++ sg 44 :: (q ++ [sg 41])) := by simp
  rw [e2] at hy
  have el : [sg 40] ++ p ++ sg 44 :: (q ++ [sg 41]) = sg 40 :: (p ++ sg 44 :: (q ++ [sg 41])) := rfl
  rw [el] at hx
  have hb := e_bd_eExpr (l := p) (by omega) m 0 (by omega)
  rw [h] at hb
  have hpos := (hb.2.2 rfl).1
  simp only at hpos
  have hlen : (sg 40 :: (p ++ sg 44 :: (q ++ [sg 41]))).length = p.length + q.length + 3 := by simp; omega
  have h0 : tokAt (sg 40 :: (p ++ sg 44 :: (q ++ [sg 41]))) 0 = some (sg 40) := by
    show tokAt _ ((0 : Nat) : Int) = _
    rw [tok_nat]; rfl
  have hc := not_close (l := p) (n := m) (i := 0) (by rw [h])
  have h1 : keyS (sg 40 :: (p ++ sg 44 :: (q ++ [sg 41]))) ((1 : Nat) : Int) [41] = false := by
    have := hx.key_in (i := 0) hpos [41]
    rw [hc] at this
    exact this
  have e1 : eExpr (sg 40 :: (p ++ sg 44 :: (q ++ [sg 41]))) m 1 = (t, p.length + 1, 0) := by
    have := (ext_all hx (by omega) (by omega) m 0 (by omega)).1 (by rw [h])
    rw [h] at this
    exact this
  have e3 : eExpr (sg 40 :: (p ++ sg 44 :: (q ++ [sg 41]))) m (p.length + 2) = (u, p.length + q.length + 2, 0) := by
    have := (ext_all hy (by omega) (by omega) m 0 (by omega)).1 (by rw [h'])
    rw [h'] at this
    have l2 : (sg 40 :: (p ++ [sg 44])).length = p.length + 2 := by simp
    rw [l2, Nat.zero_add] at this
    rw [this]
    simp only
    rw [show q.length + (p.length + 2) = p.length + q.length + 2 by omega]
  have ht : tokAt (sg 40 :: (p ++ sg 44 :: (q ++ [sg 41]))) ((p.length + 1 : Nat) : Int) = some (sg 44) := by
    rw [tok_nat, List.getElem?_cons_succ, List.getElem?_append_right (Nat.le_refl _)]; simp
  have hu : tokAt (sg 40 :: (p ++ sg 44 :: (q ++ [sg 41]))) ((p.length + q.length + 2 : Nat) : Int) = some (sg 41) := by
    rw [← e2, tok_nat, List.getElem?_append_right (by simp; omega)]
    simp
    rw [show p.length + q.length + 1 - (p.length + (q.length + 1)) = 0 by omega]; rfl
  have ha : eAtom (sg 40 :: (p ++ sg 44 :: (q ++ [sg 41]))) (m + 1) 0 = (.node 26 0 [] [] [t, u], p.length + q.length + 3, 0) := by
    rw [atom_open h0 h1, e1, bnd_ok, key_sg ht, if_pos (by decide), e3, bnd_ok, ks, key_sg hu, if_pos (by decide), ks, bnd_ok]
  exact atom_up (by omega) ha (by omega) (key0 h0)
end
/-- The plain law PexprParens. -/
theorem law07_PexprParens_true (a b : List Token) : ∃ K, law07_PexprParens K a b = some true := by
  refine Ev.get (f := fun K => law07_PexprParens K a b) ?_
  refine Ev.congr (f := fun K => _) ?_ (fun k => by rw [law07_PexprParens])
  have ha := fewT_len a
  have hb := fewT_len b
  refine Ev.bind (ev_Few a) (Ev.bind (ev_Few b) ?_)
  generalize fewT a = p at *
  generalize fewT b = q at *
  have h1 := expr_p (l := p) (by omega) (i := 0) (n := 1600) (by omega) (by omega)
  have h2 := expr_p (l := q) (by omega) (i := 0) (n := 1600) (by omega) (by omega)
  have w1 := e_bd_eExpr (l := p) (by omega) 1600 0 (by omega)
  have w2 := e_bd_eExpr (l := q) (by omega) 1600 0 (by omega)
  generalize hg : eExpr p 1600 0 = g at *
  generalize hh : eExpr q 1600 0 = h at *
  obtain ⟨t, j, e⟩ := g
  obtain ⟨u, j', e'⟩ := h
  refine Ev.bind h1 (Ev.bind h2 ?_)
  refine Ev.n (fun _ => Ev.ret ev_works7) (fun he => ?_)
  refine Ev.n (fun _ => Ev.ret ev_works7) (fun he' => ?_)
  refine Ev.n (fun _ => Ev.ret ev_works7) (fun hj => ?_)
  refine Ev.n (fun _ => Ev.ret ev_works7) (fun hj' => ?_)
  have he : e = 0 := he
  have he' : e' = 0 := he'
  subst he he'
  have hj : j = p.length := by
    have : ((j : Nat) : Int) = ((p.length : Nat) : Int) := hj
    omega
  have hj' : j' = q.length := by
    have : ((j' : Nat) : Int) = ((q.length : Nat) : Int) := hj'
    omega
  subst hj hj'
  have wt : t.w ≤ 1048576 := by have := (w1.2.2 rfl).2; simp only at this; omega
  have wu : u.w ≤ 1048576 := by have := (w2.2.2 rfl).2; simp only at this; omega
  show Ev (fun K => law07_PexprParens_c0 K p q t u) true
  refine Ev.step (fun k => by rw [law07_PexprParens_c0]) ?_
  have key : ∀ s, Ev (fun K => law07_PexprParens_1 K s) [(3, s, 0, 0)] := fun s => ⟨0, fun _ _ => rfl⟩
  refine Ev.bind (key _) ?_
  refine Ev.opt (appL_ok (by simp; omega)) ?_
  refine Ev.bind (key _) ?_
  refine Ev.opt (appL_ok (by simp; omega)) ?_
  refine Ev.bind (key _) ?_
  refine Ev.opt (appL_ok (by simp; omega)) ?_
  refine Ev.bind (key _) ?_
  refine Ev.opt (appL_ok (by simp; omega)) ?_
  refine Ev.opt (appL_ok (by simp; omega)) ?_
  refine Ev.bind (key _) ?_
  refine Ev.opt (appL_ok (by simp; omega)) ?_
  have l1 : [((3 : Int), ([40] : List UInt8), (0 : Int), (0 : Int))] ++ p ++ [((3 : Int), ([41] : List UInt8), (0 : Int), (0 : Int))] = sg 40 :: (p ++ [sg 41]) := rfl
  have l2 : [((3 : Int), ([40] : List UInt8), (0 : Int), (0 : Int))] ++ p ++ [((3 : Int), ([44] : List UInt8), (0 : Int), (0 : Int))] ++ q ++ [((3 : Int), ([41] : List UInt8), (0 : Int), (0 : Int))] = sg 40 :: (p ++ sg 44 :: (q ++ [sg 41])) := by simp
  rw [l1, l2]
  have n1 : (sg 40 :: (p ++ [sg 41])).length = p.length + 2 := by simp
  have n2 : (sg 40 :: (p ++ sg 44 :: (q ++ [sg 41]))).length = p.length + q.length + 3 := by simp; omega
  have o1 := expr_p (l := sg 40 :: (p ++ [sg 41])) (by omega) (i := 0) (n := 1606) (by omega) (by omega)
  have o2 := expr_p (l := sg 40 :: (p ++ sg 44 :: (q ++ [sg 41]))) (by omega) (i := 0) (n := 1606) (by omega) (by omega)
  rw [one_ok (by omega) (by decide) hg] at o1
  rw [two_ok (by omega) (by omega) (by decide) hg hh] at o2
  have a1 : ansE (t, p.length + 2, 0) = (t, ((p.length + 2 : Nat) : Int), 0) := by unfold ansE; rw [if_pos rfl]
  have a2 : ansE (.node 26 0 [] [] [t, u], p.length + q.length + 3, 0) = (.node 26 0 [] [] [t, u], ((p.length + q.length + 3 : Nat) : Int), 0) := by unfold ansE; rw [if_pos rfl]
  rw [a1] at o1
  rw [a2] at o2
  refine Ev.bind o1 (Ev.bind o2 ?_)
  refine Ev.dT rfl ?_
  refine Ev.dT (by rw [n1]) ?_
  refine Ev.bind (ev_asame t wt) (Ev.isT rfl ?_)
  refine Ev.dT rfl ?_
  refine Ev.dT (by rw [n2]) ?_
  refine Ev.dT rfl ?_
  refine Ev.dT rfl ?_
  refine Ev.opt (a := t) rfl ?_
  refine Ev.bind (ev_asame t wt) (Ev.isT rfl ?_)
  refine Ev.opt (a := u) rfl ?_
  refine Ev.bind (ev_asame u wu) (Ev.isT rfl ?_)
  exact Ev.ret ev_works7
end Go.Proofs.YtpplkbcfidpbcaaGreatDoor

