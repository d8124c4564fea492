/- Joined texts: Q1, Q2, Q3, Q4. -/
import Derived.Test.YtnogkihchgnbcaaGreatDoorGm
import Derived.Test.YtnogkihchgnbcaaGreatDoorGy
import Derived.Test.YtnogkihchgnbcaaGreatDoorGn
import Derived.Test.YtnogkihchgnbcaaGreatDoorGo
import Derived.Test.YtnogkihchgnbcaaGreatDoorGl
/- A list of tokens within another one: types. -/
namespace Go.Proofs.YtnogkihchgnbcaaGreatDoor
open Go Go.Am Go.Sx
/-- words that may stand behind: those that close, those that a declaration begins with -/
def clos : List (List UInt8) := [[41], [44], kVal, kType, kData, kStr, kOpen, kInc, kSig, kFun]
/-- a token without its place -/
def tx (k : Token) : Int × List UInt8 × Int := (k.1, k.2.1, k.2.2.1)
/-- the one list stands in the other, from a place on -/
structure Ext (l l' : List Token) (p : Nat) : Prop where
  tk : ∀ i : Nat, i < l.length → (tokAt l' ((i + p : Nat) : Int)).map tx = (tokAt l (i : Int)).map tx
  fin : ∀ k : Token, tokAt l' ((l.length + p : Nat) : Int) = some k → k.1 = 3 ∧ k.2.1 ∈ clos
theorem keyS_tx (l : List Token) (i : Int) (t : List UInt8) : keyS l i t = match (tokAt l i).map tx with | some x => decide (x.1 = 3) && decide (x.2.1 = t) | none => false := by unfold keyS; cases tokAt l i <;> rfl
theorem nameS_tx (l : List Token) (i : Int) : nameS l i = match (tokAt l i).map tx with | some x => if x.1 = 1 ∧ ckS x.2.1 = true then (x.2.1, true) else ([], false) | none => ([], false) := by unfold nameS; cases tokAt l i <;> rfl
theorem longS_tx (l : List Token) (i : Int) : longS l i = match (tokAt l i).map tx with | some x => if x.1 = 1 ∧ lgS x.2.1 = true then (x.2.1, true) else ([], false) | none => ([], false) := by unfold longS; cases tokAt l i <;> rfl
theorem stS_tx (l : List Token) (i : Nat) : stS l i = match (tokAt l (i : Int)).map tx with
  | some k => if k.1 = 3 then decide (k.2.1 = [116, 114, 117, 101]) || (decide (k.2.1 = [102, 97, 108, 115, 101]) || (decide (k.2.1 = [40]) || (decide (k.2.1 = [35, 49]) || decide (k.2.1 = [35, 50]))))
    else if k.1 = 2 then decide (-1073741824 ≤ k.2.2) && decide (k.2.2 ≤ 1073741824) else decide (k.1 = 1) && lgS k.2.1
  | none => false := by unfold stS; cases tokAt l (i : Int) <;> rfl
section
variable {l l' : List Token} {p : Nat} (hx : Ext l l' p)
include hx
theorem Ext.tok {i : Nat} (h : i < l.length) {k : Token} (hk : tokAt l (i : Int) = some k) : ∃ k', tokAt l' ((i + p : Nat) : Int) = some k' ∧ k'.1 = k.1 ∧ k'.2.1 = k.2.1 ∧ k'.2.2.1 = k.2.2.1 := by
  have e := hx.tk i h
  rw [hk] at e
  cases h2 : tokAt l' ((i + p : Nat) : Int) with
  | none => rw [h2] at e; cases e
  | some k' =>
    rw [h2] at e
    have e : tx k' = tx k := Option.some.inj e
    unfold tx at e
    simp only [Prod.mk.injEq] at e
    exact ⟨k', rfl, e.1, e.2.1, e.2.2⟩
theorem Ext.key_in {i : Nat} (h : i < l.length) (t : List UInt8) : keyS l' ((i + p : Nat) : Int) t = keyS l (i : Int) t := by rw [keyS_tx, keyS_tx, hx.tk i h]
theorem Ext.key {i : Nat} (h : i ≤ l.length) {t : List UInt8} (ht : t ∉ clos) : keyS l' ((i + p : Nat) : Int) t = keyS l (i : Int) t := by
  rcases Nat.lt_or_ge i l.length with h1 | h1
  · exact hx.key_in h1 t
  · obtain rfl : i = l.length := by omega
    unfold keyS
    rw [tok_none (l := l) (by omega)]
    cases h2 : tokAt l' ((l.length + p : Nat) : Int) with
    | none => rfl
    | some k =>
      obtain ⟨h3, h4⟩ := hx.fin k h2
      have hn : ¬ k.2.1 = t := fun e => ht (e ▸ h4)
      show (decide (k.1 = 3) && decide (k.2.1 = t)) = false
      rw [decide_eq_false hn, Bool.and_false]
theorem Ext.key_t {i : Nat} {t : List UInt8} (h : keyS l (i : Int) t = true) : keyS l' ((i + p : Nat) : Int) t = true := by
  have := Go.Proofs.YtnogkihchgnbcaaGreatDoor.key_in h
  rw [hx.key_in (by omega), h]
theorem Ext.name {i : Nat} (h : i ≤ l.length) : nameS l' ((i + p : Nat) : Int) = nameS l (i : Int) := by
  rcases Nat.lt_or_ge i l.length with h1 | h1
  · rw [nameS_tx, nameS_tx, hx.tk i h1]
  · obtain rfl : i = l.length := by omega
    unfold nameS
    rw [tok_none (l := l) (by omega)]
    cases h2 : tokAt l' ((l.length + p : Nat) : Int) with
    | none => rfl
    | some k =>
      obtain ⟨h3, h4⟩ := hx.fin k h2
      exact if_neg (by omega)
theorem Ext.long {i : Nat} (h : i ≤ l.length) : longS l' ((i + p : Nat) : Int) = longS l (i : Int) := by
  rcases Nat.lt_or_ge i l.length with h1 | h1
  · rw [longS_tx, longS_tx, hx.tk i h1]
  · obtain rfl : i = l.length := by omega
    unfold longS
    rw [tok_none (l := l) (by omega)]
    cases h2 : tokAt l' ((l.length + p : Nat) : Int) with
    | none => rfl
    | some k =>
      obtain ⟨h3, h4⟩ := hx.fin k h2
      exact if_neg (by omega)
theorem Ext.start {i : Nat} (h : i ≤ l.length) : stS l' (i + p) = stS l i := by
  rcases Nat.lt_or_ge i l.length with h1 | h1
  · rw [stS_tx, stS_tx, hx.tk i h1]
  · obtain rfl : i = l.length := by omega
    unfold stS
    rw [tok_none (l := l) (by omega)]
    cases h2 : tokAt l' ((l.length + p : Nat) : Int) with
    | none => rfl
    | some k =>
      obtain ⟨h3, h4⟩ := hx.fin k h2
      show (if k.1 = 3 then _ else _) = false
      rw [if_pos h3]
      simp only [clos, List.mem_cons, List.not_mem_nil, or_false] at h4
      rcases h4 with e | e | e | e | e | e | e | e | e | e <;> rw [e] <;> decide
end
/-- the answer in the other list, if there is one -/
def To {α : Type} (l : List Token) (p i : Nat) (r r' : α × Nat × Int) : Prop := r.2.2 = 0 → r' = (r.1, r.2.1 + p, 0) ∧ i ≤ r.2.1 ∧ r.2.1 ≤ l.length
theorem to_no {α : Type} {l : List Token} {p i j : Nat} {a : α} {e : Int} {r' : α × Nat × Int} (h : e ≠ 0) : To l p i (a, j, e) r' := fun h0 => absurd h0 h
theorem to_ok {α : Type} {l : List Token} {p i j : Nat} {a : α} (h1 : i ≤ j) (h2 : j ≤ l.length) : To l p i (a, j, 0) (a, j + p, 0) := fun _ => ⟨rfl, h1, h2⟩
section
variable {l l' : List Token} {p : Nat} (hx : Ext l l' p)
include hx
theorem ext_ty : ∀ n n' i, n ≤ n' → i ≤ l.length → To l p i (typS l n i) (typS l' n' (i + p)) ∧ To l p i (prodS l n i) (prodS l' n' (i + p)) ∧ To l p i (atomS l n i) (atomS l' n' (i + p)) ∧ ∀ out, To l p i (consS l n i out) (consS l' n' (i + p) out) := by
  intro n
  induction n with
  | zero =>
    intro n' i _ _
    refine ⟨?_, ?_, ?_, fun out => ?_⟩
    · rw [typS]; exact to_no (by decide)
    · rw [prodS]; exact to_no (by decide)
    · rw [atomS]; exact to_no (by decide)
    · rw [consS]; exact to_no (by decide)
  | succ n ih =>
    intro n' i hn hi
    obtain ⟨n', rfl⟩ : ∃ q, n' = q + 1 := ⟨n' - 1, by omega⟩
    have ihT : ∀ j, j ≤ l.length → To l p j (typS l n j) (typS l' n' (j + p)) := fun j h => (ih n' j (by omega) h).1
    have ihP : ∀ j, j ≤ l.length → To l p j (prodS l n j) (prodS l' n' (j + p)) := fun j h => (ih n' j (by omega) h).2.1
    have ihO : ∀ j, j ≤ l.length → To l p j (atomS l n j) (atomS l' n' (j + p)) := fun j h => (ih n' j (by omega) h).2.2.1
    have ihC : ∀ j, j ≤ l.length → ∀ out, To l p j (consS l n j out) (consS l' n' (j + p) out) := fun j h => (ih n' j (by omega) h).2.2.2
    refine ⟨?_, ?_, ?_, fun out => ?_⟩
    · rw [typS, typS]
      have h := ihP i hi
      generalize prodS l n i = g at *
      generalize prodS l' n' (i + p) = g' at *
      obtain ⟨a, j, e⟩ := g
      by_cases he : e = 0
      · subst he
        obtain ⟨rfl, h1, h2⟩ := h rfl
        simp only at h1 h2
        simp only [if_true]
        rw [hx.key h2 (by decide)]
        by_cases hk : keyS l (j : Int) [45, 62] = true
        · have hin := key_in hk
          rw [if_pos hk, if_pos hk]
          have h' := ihT (j + 1) (by omega)
          rw [Nat.add_right_comm j 1 p] at h'
          generalize typS l n (j + 1) = g at *
          generalize typS l' n' (j + p + 1) = g' at *
          obtain ⟨b, j2, e2⟩ := g
          by_cases he2 : e2 = 0
          · subst he2
            obtain ⟨rfl, h3, h4⟩ := h' rfl
            simp only at h3 h4
            simp only [if_true]
            exact to_ok (by omega) h4
          · simp only; exact to_no he2
        · rw [if_neg hk, if_neg hk]; exact to_ok h1 h2
      · simp only [if_neg he]; exact to_no he
    · rw [prodS, prodS]
      have h := ihO i hi
      generalize atomS l n i = g at *
      generalize atomS l' n' (i + p) = g' at *
      obtain ⟨a, j, e⟩ := g
      by_cases he : e = 0
      · subst he
        obtain ⟨rfl, h1, h2⟩ := h rfl
        simp only at h1 h2
        simp only [if_true]
        rw [hx.key h2 (by decide)]
        by_cases hk : keyS l (j : Int) [42] = true
        · have hin := key_in hk
          rw [if_pos hk, if_pos hk]
          have h' := ihP (j + 1) (by omega)
          rw [Nat.add_right_comm j 1 p] at h'
          generalize prodS l n (j + 1) = g at *
          generalize prodS l' n' (j + p + 1) = g' at *
          obtain ⟨b, j2, e2⟩ := g
          by_cases he2 : e2 = 0
          · subst he2
            obtain ⟨rfl, h3, h4⟩ := h' rfl
            simp only at h3 h4
            simp only [if_true]
            exact to_ok (by omega) h4
          · simp only; exact to_no he2
        · rw [if_neg hk, if_neg hk]; exact to_ok h1 h2
      · simp only [if_neg he]; exact to_no he
    · rw [atomS, atomS, hx.long hi, hx.key hi (by decide), hx.key hi (by decide), hx.key hi (by decide), hx.key hi (by decide), hx.key hi (by decide)]
      have fin : ∀ {t : Tr} {w : Nat}, i < l.length → To l p i (t, i + 1, 0) (t, i + p + 1, 0) := fun {t} {w} h => by
        rw [Nat.add_right_comm i p 1]; exact to_ok (by omega) (by omega)
      by_cases k0 : (longS l (i : Int)).2 = true
      · have hin := long_in k0
        rw [if_pos k0, if_pos k0]; exact fin (w := 0) (by omega)
      rw [if_neg k0, if_neg k0]
      by_cases k1 : keyS l (i : Int) [105, 110, 116] = true
      · have hin := key_in k1
        rw [if_pos k1, if_pos k1]; exact fin (w := 0) (by omega)
      rw [if_neg k1, if_neg k1]
      by_cases k2 : keyS l (i : Int) [98, 111, 111, 108] = true
      · have hin := key_in k2
        rw [if_pos k2, if_pos k2]; exact fin (w := 0) (by omega)
      rw [if_neg k2, if_neg k2]
      by_cases k3 : keyS l (i : Int) [117, 110, 105, 116] = true
      · have hin := key_in k3
        rw [if_pos k3, if_pos k3]; exact fin (w := 0) (by omega)
      rw [if_neg k3, if_neg k3]
      by_cases k4 : keyS l (i : Int) [40] = true
      · have hin := key_in k4
        rw [if_pos k4, if_pos k4]
        have h' := ihT (i + 1) (by omega)
        rw [Nat.add_right_comm i 1 p] at h'
        generalize typS l n (i + 1) = g at *
        generalize typS l' n' (i + p + 1) = g' at *
        obtain ⟨t, j, e⟩ := g
        by_cases he : e = 0
        · subst he
          obtain ⟨rfl, h3, h4⟩ := h' rfl
          simp only at h3 h4
          simp only [if_true]
          by_cases kc : keyS l (j : Int) [41] = true
          · have hin2 := key_in kc
            rw [if_pos kc, if_pos (hx.key_t kc), Nat.add_right_comm j p 1]
            exact to_ok (by omega) (by omega)
          · rw [if_neg kc]; exact to_no (by decide)
        · simp only [if_neg he]; exact to_no he
      rw [if_neg k4, if_neg k4]
      by_cases k5 : keyS l (i : Int) [109, 117] = true
      · have hin := key_in k5
        rw [if_pos k5, if_pos k5]
        have e1 := hx.name (i := i + 1) (by omega)
        rw [Nat.add_right_comm i 1 p] at e1
        rw [e1]
        by_cases k6 : (nameS l ((i + 1 : Nat) : Int)).2 = true
        · have hin6 := name_in k6
          rw [if_pos k6, if_pos k6]
          have e2 := hx.key (i := i + 2) (by omega) (t := [123]) (by decide)
          rw [Nat.add_right_comm i 2 p] at e2
          rw [e2]
          by_cases k7 : keyS l ((i + 2 : Nat) : Int) [123] = true
          · have hin7 := key_in k7
            rw [if_pos k7, if_pos k7]
            have h' := ihC (i + 3) (by omega) []
            rw [Nat.add_right_comm i 3 p] at h'
            generalize consS l n (i + 3) [] = g at *
            generalize consS l' n' (i + p + 3) [] = g' at *
            obtain ⟨c, j, e⟩ := g
            by_cases he : e = 0
            · subst he
              obtain ⟨rfl, h3, h4⟩ := h' rfl
              simp only at h3 h4
              simp only [if_true]
              rw [hx.key h4 (by decide)]
              by_cases kc : keyS l (j : Int) [125] = true
              · have hin2 := key_in kc
                rw [if_pos kc, if_pos kc, Nat.add_right_comm j p 1]
                exact to_ok (by omega) (by omega)
              · rw [if_neg kc]; exact to_no (by decide)
            · simp only [if_neg he]; exact to_no he
          · rw [if_neg k7]; exact to_no (by decide)
        · rw [if_neg k6]; exact to_no (by decide)
      · rw [if_neg k5]; exact to_no (by decide)
    · rw [consS, consS, hx.name hi]
      by_cases k0 : (nameS l (i : Int)).2 = true
      · have hin := name_in k0
        rw [if_pos k0, if_pos k0]
        by_cases k1 : (nameS l (i : Int)).1 ∈ out.map nameOf
        · rw [if_pos k1]; exact to_no (by decide)
        · rw [if_neg k1, if_neg k1]
          have e2 := hx.key (i := i + 1) (by omega) (t := [111, 102]) (by decide)
          rw [Nat.add_right_comm i 1 p] at e2
          rw [e2]
          by_cases k2 : keyS l ((i + 1 : Nat) : Int) [111, 102] = true
          · have hin2 := key_in k2
            rw [if_pos k2, if_pos k2]
            have h' := ihT (i + 2) (by omega)
            rw [Nat.add_right_comm i 2 p] at h'
            generalize typS l n (i + 2) = g at *
            generalize typS l' n' (i + p + 2) = g' at *
            obtain ⟨t, j, e⟩ := g
            by_cases he : e = 0
            · subst he
              obtain ⟨rfl, h3, h4⟩ := h' rfl
              simp only at h3 h4
              simp only [if_true]
              rw [hx.key h4 (by decide)]
              by_cases kc : keyS l (j : Int) [124] = true
              · have hin3 := key_in kc
                rw [if_pos kc, if_pos kc]
                have h5 := ihC (j + 1) (by omega) (out ++ [.node 8 0 (nameS l (i : Int)).1 [] [t]])
                rw [Nat.add_right_comm j 1 p] at h5
                intro h0
                obtain ⟨q1, q2, q3⟩ := h5 h0
                exact ⟨q1, by omega, q3⟩
              · rw [if_neg kc, if_neg kc]
                exact to_ok (by omega) h4
            · simp only [if_neg he]; exact to_no he
          · rw [if_neg k2]; exact to_no (by decide)
      · rw [if_neg k0]; exact to_no (by decide)
end
end Go.Proofs.YtnogkihchgnbcaaGreatDoor

/- A list of tokens within another one: expressions. Printed by gen8/q.py. -/
namespace Go.Proofs.YtnogkihchgnbcaaGreatDoor
open Go Go.Am Go.Sx
def Tf {α : Type} (p : Nat) (r r' : α × Nat × Int) : Prop := r.2.2 = 0 → r' = (r.1, r.2.1 + p, 0)
theorem tf_bnd {α β : Type} {p : Nat} {d d' : β} {r r' : α × Nat × Int} {f f' : α → Nat → β × Nat × Int} (h : Tf p r r') (hf : r.2.2 = 0 → Tf p (f r.1 r.2.1) (f' r.1 (r.2.1 + p))) : Tf p (bnd d r f) (bnd d' r' f') := by
  by_cases he : r.2.2 = 0
  · have e := h he
    have e1 : bnd d r f = f r.1 r.2.1 := if_pos he
    have e2 : bnd d' r' f' = f' r.1 (r.2.1 + p) := by rw [e, bnd_ok]
    rw [e1, e2]; exact hf he
  · have e1 : bnd d r f = (d, r.2.1, r.2.2) := if_neg he
    rw [e1]; exact fun h0 => absurd h0 he
theorem tf_no {α β : Type} {p : Nat} {d : β} {r : α × Nat × Int} {f : α → Nat → β × Nat × Int} {x : β × Nat × Int} (he : r.2.2 ≠ 0) : Tf p (bnd d r f) x := by
  have e1 : bnd d r f = (d, r.2.1, r.2.2) := if_neg he
  rw [e1]; exact fun h0 => absurd h0 he
section
variable {l l' : List Token} {p : Nat} (hx : Ext l l' p)
include hx
theorem ext_ks : ∀ (t : List (List UInt8)) (i : Nat), i ≤ l.length → Tf p (ks l t i) (ks l' t (i + p))
  | [], i, _ => by rw [ks, ks]; exact fun _ => rfl
  | t :: r, i, hi => by
    rw [ks, ks]
    by_cases hk : keyS l (i : Int) t = true
    · have hin := key_in hk
      rw [if_pos hk, if_pos (hx.key_t hk), Nat.add_right_comm i p 1]
      exact ext_ks r (i + 1) (by omega)
    · rw [if_neg hk]; exact fun h => absurd (show (6 : Int) = 0 from h) (by decide)
theorem ext_nm {i : Nat} (hi : i ≤ l.length) : Tf p (nmR l i) (nmR l' (i + p)) := by
  unfold nmR
  rw [hx.name hi]
  by_cases hk : (nameS l (i : Int)).2 = true
  · rw [if_pos hk, if_pos hk, Nat.add_right_comm i p 1]; exact fun _ => rfl
  · rw [if_neg hk]; exact fun h => absurd (show (6 : Int) = 0 from h) (by decide)
theorem ext_tyR (hll : l.length ≤ l'.length) {i : Nat} (hi : i ≤ l.length) : Tf p (tyR l i) (tyR l' (i + p)) := fun h => ((ext_ty hx (3 * l.length + 3) (3 * l'.length + 3) i (by omega) hi).1 h).1
variable (hl : l.length ≤ 20000) (hll : l.length ≤ l'.length)
include hl hll
theorem ext_all : ∀ n n' i, n ≤ n' → i ≤ l.length → Tf p (eExpr l n i) (eExpr l' n' (i + p)) ∧ (∀ out, Tf p (eArms l n out i) (eArms l' n' out (i + p))) ∧ Tf p (eCmp l n i) (eCmp l' n' (i + p)) ∧ Tf p (eSum l n i) (eSum l' n' (i + p)) ∧ (∀ a, Tf p (eSumL l n a i) (eSumL l' n' a (i + p))) ∧
    Tf p (eTerm l n i) (eTerm l' n' (i + p)) ∧ (∀ a, Tf p (eTermL l n a i) (eTermL l' n' a (i + p))) ∧ Tf p (eApp l n i) (eApp l' n' (i + p)) ∧ (∀ a, Tf p (eAppL l n a i) (eAppL l' n' a (i + p))) ∧ Tf p (eAtom l n i) (eAtom l' n' (i + p)) := by
  intro n
  induction n with
  | zero =>
    intro n' i _ hi
    have no : ∀ {α : Type} {d : α} {j : Nat} {x : α × Nat × Int}, Tf p (d, j, 6) x := fun h => absurd (show (6 : Int) = 0 from h) (by decide)
    refine ⟨?_, fun out => ?_, ?_, ?_, fun a => ?_, ?_, fun a => ?_, ?_, fun a => ?_, ?_⟩
    · rw [eExpr]; exact no
    · rw [eArms]; exact no
    · rw [eCmp]; exact no
    · rw [eSum]; exact no
    · rw [eSumL]; exact no
    · rw [eTerm]; exact no
    · rw [eTermL]; exact no
    · rw [eApp]; exact no
    · rw [eAppL]; exact no
    · rw [eAtom]; exact no
  | succ n ih =>
    intro n' i hn hi
    obtain ⟨n', rfl⟩ : ∃ q, n' = q + 1 := ⟨n' - 1, by omega⟩
    have ihE : ∀ j, j ≤ l.length → Tf p (eExpr l n j) (eExpr l' n' (j + p)) := fun j h => (ih n' j (by omega) h).1
    have ihA : ∀ j, j ≤ l.length → ∀ out, Tf p (eArms l n out j) (eArms l' n' out (j + p)) := fun j h => (ih n' j (by omega) h).2.1
    have ihC : ∀ j, j ≤ l.length → Tf p (eCmp l n j) (eCmp l' n' (j + p)) := fun j h => (ih n' j (by omega) h).2.2.1
    have ihS : ∀ j, j ≤ l.length → Tf p (eSum l n j) (eSum l' n' (j + p)) := fun j h => (ih n' j (by omega) h).2.2.2.1
    have ihSL : ∀ j, j ≤ l.length → ∀ a, Tf p (eSumL l n a j) (eSumL l' n' a (j + p)) := fun j h => (ih n' j (by omega) h).2.2.2.2.1
    have ihT : ∀ j, j ≤ l.length → Tf p (eTerm l n j) (eTerm l' n' (j + p)) := fun j h => (ih n' j (by omega) h).2.2.2.2.2.1
    have ihTL : ∀ j, j ≤ l.length → ∀ a, Tf p (eTermL l n a j) (eTermL l' n' a (j + p)) := fun j h => (ih n' j (by omega) h).2.2.2.2.2.2.1
    have ihP : ∀ j, j ≤ l.length → Tf p (eApp l n j) (eApp l' n' (j + p)) := fun j h => (ih n' j (by omega) h).2.2.2.2.2.2.2.1
    have ihPL : ∀ j, j ≤ l.length → ∀ a, Tf p (eAppL l n a j) (eAppL l' n' a (j + p)) := fun j h => (ih n' j (by omega) h).2.2.2.2.2.2.2.2.1
    have ihO : ∀ j, j ≤ l.length → Tf p (eAtom l n j) (eAtom l' n' (j + p)) := fun j h => (ih n' j (by omega) h).2.2.2.2.2.2.2.2.2
    refine ⟨?_, fun out => ?_, ?_, ?_, fun a => ?_, ?_, fun a => ?_, ?_, fun a => ?_, ?_⟩
    · rw [eExpr, eExpr, hx.key hi (by decide), hx.key hi (by decide), hx.key hi (by decide), hx.key hi (by decide), hx.key hi (by decide)]
      by_cases k_fn : keyS l (i : Int) [102, 110] = true
      · have hin := key_in k_fn
        rw [if_pos k_fn, if_pos k_fn, Nat.add_right_comm i p 1]
        have b := bw_ks l [[40]] (i + 1) (by omega)
        have f := ext_ks hx [[40]] (i + 1) (by omega)
        generalize ks l [[40]] (i + 1) = g1 at *
        obtain ⟨g1a, g1b⟩ := b
        refine tf_bnd f fun h1 => ?_
        have b := bw_nm (l := l) (i := g1.2.1) (by omega)
        have f := ext_nm hx (i := g1.2.1) (by omega)
        generalize nmR l (g1.2.1) = g2 at *
        obtain ⟨g2a, g2b⟩ := b
        refine tf_bnd f fun h2 => ?_
        have b := bw_ks l [[58]] (g2.2.1) (by omega)
        have f := ext_ks hx [[58]] (g2.2.1) (by omega)
        generalize ks l [[58]] (g2.2.1) = g3 at *
        obtain ⟨g3a, g3b⟩ := b
        refine tf_bnd f fun h3 => ?_
        have b := ty_pz hl (i := g3.2.1) (by omega)
        have f := ext_tyR hx hll (i := g3.2.1) (by omega)
        generalize tyR l (g3.2.1) = g4 at *
        obtain ⟨g4a, g4b, _⟩ := b
        refine tf_bnd f fun h4 => ?_
        have b := bw_ks l [[41], [61, 62]] (g4.2.1) (by omega)
        have f := ext_ks hx [[41], [61, 62]] (g4.2.1) (by omega)
        generalize ks l [[41], [61, 62]] (g4.2.1) = g5 at *
        obtain ⟨g5a, g5b⟩ := b
        refine tf_bnd f fun h5 => ?_
        have b := e_bd_eExpr hl n (g5.2.1) (by omega)
        have f := ihE (g5.2.1) (by omega)
        generalize eExpr l n (g5.2.1) = g6 at *
        obtain ⟨g6a, g6b, _⟩ := b
        refine tf_bnd f fun h6 => ?_
        exact fun _ => rfl
      rw [if_neg k_fn, if_neg k_fn]
      by_cases k_let : keyS l (i : Int) [108, 101, 116] = true
      · have hin := key_in k_let
        rw [if_pos k_let, if_pos k_let, Nat.add_right_comm i p 1]
        have b := bw_nm (l := l) (i := i + 1) (by omega)
        have f := ext_nm hx (i := i + 1) (by omega)
        generalize nmR l (i + 1) = g1 at *
        obtain ⟨g1a, g1b⟩ := b
        refine tf_bnd f fun h1 => ?_
        have b := bw_ks l [[61]] (g1.2.1) (by omega)
        have f := ext_ks hx [[61]] (g1.2.1) (by omega)
        generalize ks l [[61]] (g1.2.1) = g2 at *
        obtain ⟨g2a, g2b⟩ := b
        refine tf_bnd f fun h2 => ?_
        have b := e_bd_eExpr hl n (g2.2.1) (by omega)
        have f := ihE (g2.2.1) (by omega)
        generalize eExpr l n (g2.2.1) = g3 at *
        obtain ⟨g3a, g3b, _⟩ := b
        refine tf_bnd f fun h3 => ?_
        have b := bw_ks l [[105, 110]] (g3.2.1) (by omega)
        have f := ext_ks hx [[105, 110]] (g3.2.1) (by omega)
        generalize ks l [[105, 110]] (g3.2.1) = g4 at *
        obtain ⟨g4a, g4b⟩ := b
        refine tf_bnd f fun h4 => ?_
        have b := e_bd_eExpr hl n (g4.2.1) (by omega)
        have f := ihE (g4.2.1) (by omega)
        generalize eExpr l n (g4.2.1) = g5 at *
        obtain ⟨g5a, g5b, _⟩ := b
        refine tf_bnd f fun h5 => ?_
        have b := bw_ks l [[101, 110, 100]] (g5.2.1) (by omega)
        have f := ext_ks hx [[101, 110, 100]] (g5.2.1) (by omega)
        generalize ks l [[101, 110, 100]] (g5.2.1) = g6 at *
        obtain ⟨g6a, g6b⟩ := b
        refine tf_bnd f fun h6 => ?_
        exact fun _ => rfl
      rw [if_neg k_let, if_neg k_let]
      by_cases k_if : keyS l (i : Int) [105, 102] = true
      · have hin := key_in k_if
        rw [if_pos k_if, if_pos k_if, Nat.add_right_comm i p 1]
        have b := e_bd_eExpr hl n (i + 1) (by omega)
        have f := ihE (i + 1) (by omega)
        generalize eExpr l n (i + 1) = g1 at *
        obtain ⟨g1a, g1b, _⟩ := b
        refine tf_bnd f fun h1 => ?_
        have b := bw_ks l [[116, 104, 101, 110]] (g1.2.1) (by omega)
        have f := ext_ks hx [[116, 104, 101, 110]] (g1.2.1) (by omega)
        generalize ks l [[116, 104, 101, 110]] (g1.2.1) = g2 at *
        obtain ⟨g2a, g2b⟩ := b
        refine tf_bnd f fun h2 => ?_
        have b := e_bd_eExpr hl n (g2.2.1) (by omega)
        have f := ihE (g2.2.1) (by omega)
        generalize eExpr l n (g2.2.1) = g3 at *
        obtain ⟨g3a, g3b, _⟩ := b
        refine tf_bnd f fun h3 => ?_
        have b := bw_ks l [[101, 108, 115, 101]] (g3.2.1) (by omega)
        have f := ext_ks hx [[101, 108, 115, 101]] (g3.2.1) (by omega)
        generalize ks l [[101, 108, 115, 101]] (g3.2.1) = g4 at *
        obtain ⟨g4a, g4b⟩ := b
        refine tf_bnd f fun h4 => ?_
        have b := e_bd_eExpr hl n (g4.2.1) (by omega)
        have f := ihE (g4.2.1) (by omega)
        generalize eExpr l n (g4.2.1) = g5 at *
        obtain ⟨g5a, g5b, _⟩ := b
        refine tf_bnd f fun h5 => ?_
        exact fun _ => rfl
      rw [if_neg k_if, if_neg k_if]
      by_cases k_case : keyS l (i : Int) [99, 97, 115, 101] = true
      · have hin := key_in k_case
        rw [if_pos k_case, if_pos k_case, Nat.add_right_comm i p 1]
        have b := e_bd_eExpr hl n (i + 1) (by omega)
        have f := ihE (i + 1) (by omega)
        generalize eExpr l n (i + 1) = g1 at *
        obtain ⟨g1a, g1b, _⟩ := b
        refine tf_bnd f fun h1 => ?_
        have b := bw_ks l [[111, 102]] (g1.2.1) (by omega)
        have f := ext_ks hx [[111, 102]] (g1.2.1) (by omega)
        generalize ks l [[111, 102]] (g1.2.1) = g2 at *
        obtain ⟨g2a, g2b⟩ := b
        refine tf_bnd f fun h2 => ?_
        have b := e_bd_eArms hl n [] (g2.2.1) (by omega)
        have f := ihA (g2.2.1) (by omega) []
        generalize eArms l n [] (g2.2.1) = g3 at *
        obtain ⟨g3a, g3b, _⟩ := b
        refine tf_bnd f fun h3 => ?_
        exact fun _ => rfl
      rw [if_neg k_case, if_neg k_case]
      by_cases k_fold : keyS l (i : Int) [102, 111, 108, 100] = true
      · have hin := key_in k_fold
        rw [if_pos k_fold, if_pos k_fold, Nat.add_right_comm i p 1]
        have b := e_bd_eExpr hl n (i + 1) (by omega)
        have f := ihE (i + 1) (by omega)
        generalize eExpr l n (i + 1) = g1 at *
        obtain ⟨g1a, g1b, _⟩ := b
        refine tf_bnd f fun h1 => ?_
        have b := bw_ks l [[116, 111]] (g1.2.1) (by omega)
        have f := ext_ks hx [[116, 111]] (g1.2.1) (by omega)
        generalize ks l [[116, 111]] (g1.2.1) = g2 at *
        obtain ⟨g2a, g2b⟩ := b
        refine tf_bnd f fun h2 => ?_
        have b := ty_pz hl (i := g2.2.1) (by omega)
        have f := ext_tyR hx hll (i := g2.2.1) (by omega)
        generalize tyR l (g2.2.1) = g3 at *
        obtain ⟨g3a, g3b, _⟩ := b
        refine tf_bnd f fun h3 => ?_
        have b := bw_ks l [[111, 102]] (g3.2.1) (by omega)
        have f := ext_ks hx [[111, 102]] (g3.2.1) (by omega)
        generalize ks l [[111, 102]] (g3.2.1) = g4 at *
        obtain ⟨g4a, g4b⟩ := b
        refine tf_bnd f fun h4 => ?_
        have b := e_bd_eArms hl n [] (g4.2.1) (by omega)
        have f := ihA (g4.2.1) (by omega) []
        generalize eArms l n [] (g4.2.1) = g5 at *
        obtain ⟨g5a, g5b, _⟩ := b
        refine tf_bnd f fun h5 => ?_
        exact fun _ => rfl
      rw [if_neg k_fold, if_neg k_fold]
      exact ihC i hi
    · rw [eArms, eArms]
      have b := bw_nm (l := l) (i := i) (by omega)
      have f := ext_nm hx (i := i) (by omega)
      generalize nmR l (i) = g1 at *
      obtain ⟨g1a, g1b⟩ := b
      refine tf_bnd f fun h1 => ?_
      have b := bw_nm (l := l) (i := g1.2.1) (by omega)
      have f := ext_nm hx (i := g1.2.1) (by omega)
      generalize nmR l (g1.2.1) = g2 at *
      obtain ⟨g2a, g2b⟩ := b
      refine tf_bnd f fun h2 => ?_
      have b := bw_ks l [[61, 62]] (g2.2.1) (by omega)
      have f := ext_ks hx [[61, 62]] (g2.2.1) (by omega)
      generalize ks l [[61, 62]] (g2.2.1) = g3 at *
      obtain ⟨g3a, g3b⟩ := b
      refine tf_bnd f fun h3 => ?_
      have b := e_bd_eExpr hl n (g3.2.1) (by omega)
      have f := ihE (g3.2.1) (by omega)
      generalize eExpr l n (g3.2.1) = g4 at *
      obtain ⟨g4a, g4b, _⟩ := b
      refine tf_bnd f fun h4 => ?_
      rw [hx.key g4b (by decide)]
      by_cases kb : keyS l (g4.2.1 : Int) [124] = true
      · have hin := key_in kb
        rw [if_pos kb, if_pos kb, Nat.add_right_comm g4.2.1 p 1]
        exact ihA (g4.2.1 + 1) (by omega) _
      · rw [if_neg kb, if_neg kb]
        have b := bw_ks l [[101, 110, 100]] (g4.2.1) (by omega)
        have f := ext_ks hx [[101, 110, 100]] (g4.2.1) (by omega)
        generalize ks l [[101, 110, 100]] (g4.2.1) = g5 at *
        obtain ⟨g5a, g5b⟩ := b
        refine tf_bnd f fun h5 => ?_
        exact fun _ => rfl
    · rw [eCmp, eCmp]
      have b := e_bd_eSum hl n (i) (by omega)
      have f := ihS (i) (by omega)
      generalize eSum l n (i) = g1 at *
      obtain ⟨g1a, g1b, _⟩ := b
      refine tf_bnd f fun h1 => ?_
      rw [hx.key g1b (by decide), hx.key g1b (by decide)]
      by_cases k4 : keyS l (g1.2.1 : Int) [61] = true
      · have hin := key_in k4
        rw [if_pos k4, if_pos k4, Nat.add_right_comm g1.2.1 p 1]
        have b := e_bd_eSum hl n (g1.2.1 + 1) (by omega)
        have f := ihS (g1.2.1 + 1) (by omega)
        generalize eSum l n (g1.2.1 + 1) = g2 at *
        obtain ⟨g2a, g2b, _⟩ := b
        refine tf_bnd f fun h2 => ?_
        exact fun _ => rfl
      rw [if_neg k4, if_neg k4]
      by_cases k5 : keyS l (g1.2.1 : Int) [60] = true
      · have hin := key_in k5
        rw [if_pos k5, if_pos k5, Nat.add_right_comm g1.2.1 p 1]
        have b := e_bd_eSum hl n (g1.2.1 + 1) (by omega)
        have f := ihS (g1.2.1 + 1) (by omega)
        generalize eSum l n (g1.2.1 + 1) = g2 at *
        obtain ⟨g2a, g2b, _⟩ := b
        refine tf_bnd f fun h2 => ?_
        exact fun _ => rfl
      rw [if_neg k5, if_neg k5]
      exact fun _ => rfl
    · rw [eSum, eSum]
      have b := e_bd_eTerm hl n (i) (by omega)
      have f := ihT (i) (by omega)
      generalize eTerm l n (i) = g1 at *
      obtain ⟨g1a, g1b, _⟩ := b
      refine tf_bnd f fun h1 => ?_
      exact ihSL g1.2.1 (by omega) g1.1
    · rw [eSumL, eSumL, hx.key hi (by decide), hx.key hi (by decide)]
      by_cases k0 : keyS l (i : Int) [43] = true
      · have hin := key_in k0
        rw [if_pos k0, if_pos k0, Nat.add_right_comm i p 1]
        have b := e_bd_eTerm hl n (i + 1) (by omega)
        have f := ihT (i + 1) (by omega)
        generalize eTerm l n (i + 1) = g1 at *
        obtain ⟨g1a, g1b, _⟩ := b
        refine tf_bnd f fun h1 => ?_
        exact ihSL g1.2.1 (by omega) _
      rw [if_neg k0, if_neg k0]
      by_cases k1 : keyS l (i : Int) [45] = true
      · have hin := key_in k1
        rw [if_pos k1, if_pos k1, Nat.add_right_comm i p 1]
        have b := e_bd_eTerm hl n (i + 1) (by omega)
        have f := ihT (i + 1) (by omega)
        generalize eTerm l n (i + 1) = g1 at *
        obtain ⟨g1a, g1b, _⟩ := b
        refine tf_bnd f fun h1 => ?_
        exact ihSL g1.2.1 (by omega) _
      rw [if_neg k1, if_neg k1]
      exact fun _ => rfl
    · rw [eTerm, eTerm]
      have b := e_bd_eApp hl n (i) (by omega)
      have f := ihP (i) (by omega)
      generalize eApp l n (i) = g1 at *
      obtain ⟨g1a, g1b, _⟩ := b
      refine tf_bnd f fun h1 => ?_
      exact ihTL g1.2.1 (by omega) g1.1
    · rw [eTermL, eTermL, hx.key hi (by decide)]
      by_cases k0 : keyS l (i : Int) [42] = true
      · have hin := key_in k0
        rw [if_pos k0, if_pos k0, Nat.add_right_comm i p 1]
        have b := e_bd_eApp hl n (i + 1) (by omega)
        have f := ihP (i + 1) (by omega)
        generalize eApp l n (i + 1) = g1 at *
        obtain ⟨g1a, g1b, _⟩ := b
        refine tf_bnd f fun h1 => ?_
        exact ihTL g1.2.1 (by omega) _
      rw [if_neg k0, if_neg k0]
      exact fun _ => rfl
    · rw [eApp, eApp]
      have b := e_bd_eAtom hl n (i) (by omega)
      have f := ihO (i) (by omega)
      generalize eAtom l n (i) = g1 at *
      obtain ⟨g1a, g1b, _⟩ := b
      refine tf_bnd f fun h1 => ?_
      exact ihPL g1.2.1 (by omega) g1.1
    · rw [eAppL, eAppL, hx.start hi]
      by_cases k0 : stS l i = true
      · have hin := st_in k0
        rw [if_pos k0, if_pos k0]
        have b := e_bd_eAtom hl n (i) (by omega)
        have f := ihO (i) (by omega)
        generalize eAtom l n (i) = g1 at *
        obtain ⟨g1a, g1b, _⟩ := b
        refine tf_bnd f fun h1 => ?_
        exact ihPL g1.2.1 (by omega) _
      rw [if_neg k0, if_neg k0]
      exact fun _ => rfl
    · rw [eAtom, eAtom, hx.start hi]
      by_cases ks0 : stS l i = true
      · have hin := st_in ks0
        rw [if_pos ks0, if_pos ks0]
        obtain ⟨k, _, _, hk⟩ := tok_some (l := l) (i := (i : Int)) (by omega)
        obtain ⟨k', hk', e1, e2, e3⟩ := hx.tok hin hk
        rw [hk, hk']
        simp only [e1, e2, e3]
        have one : ∀ {t : Tr}, Tf p (t, i + 1, 0) (t, i + p + 1, 0) := fun _ => by rw [Nat.add_right_comm i p 1]
        by_cases c0 : k.1 = 2
        · rw [if_pos c0, if_pos c0]; exact one
        rw [if_neg c0, if_neg c0]
        by_cases c1 : k.1 = 1
        · rw [if_pos c1, if_pos c1]; exact one
        rw [if_neg c1, if_neg c1]
        by_cases c2 : k.2.1 = [116, 114, 117, 101]
        · rw [if_pos c2, if_pos c2]; exact one
        rw [if_neg c2, if_neg c2]
        by_cases c3 : k.2.1 = [102, 97, 108, 115, 101]
        · rw [if_pos c3, if_pos c3]; exact one
        rw [if_neg c3, if_neg c3]
        by_cases c4 : k.2.1 = [35, 49]
        · rw [if_pos c4, if_pos c4, Nat.add_right_comm i p 1]
          have b := e_bd_eAtom hl n (i + 1) (by omega)
          have f := ihO (i + 1) (by omega)
          generalize eAtom l n (i + 1) = g1 at *
          obtain ⟨g1a, g1b, _⟩ := b
          refine tf_bnd f fun h1 => ?_
          exact fun _ => rfl
        rw [if_neg c4, if_neg c4]
        by_cases c5 : k.2.1 = [35, 50]
        · rw [if_pos c5, if_pos c5, Nat.add_right_comm i p 1]
          have b := e_bd_eAtom hl n (i + 1) (by omega)
          have f := ihO (i + 1) (by omega)
          generalize eAtom l n (i + 1) = g1 at *
          obtain ⟨g1a, g1b, _⟩ := b
          refine tf_bnd f fun h1 => ?_
          exact fun _ => rfl
        rw [if_neg c5, if_neg c5]
        rw [Nat.add_right_comm i p 1]
        by_cases c6 : keyS l ((i + 1 : Nat) : Int) [41] = true
        · rw [if_pos c6, if_pos (hx.key_t c6)]
          exact fun _ => by rw [Nat.add_right_comm i p 2]
        rw [if_neg c6]
        rcases Nat.lt_or_ge (i + 1) l.length with hlt | hge
        · rw [hx.key_in hlt, if_neg c6]
          have b := e_bd_eExpr hl n (i + 1) (by omega)
          have f := ihE (i + 1) (by omega)
          generalize eExpr l n (i + 1) = g1 at *
          obtain ⟨g1a, g1b, _⟩ := b
          refine tf_bnd f fun h1 => ?_
          by_cases c7 : keyS l (g1.2.1 : Int) [44] = true
          · have hin7 := key_in c7
            rw [if_pos c7, if_pos (hx.key_t c7), Nat.add_right_comm g1.2.1 p 1]
            have b := e_bd_eExpr hl n (g1.2.1 + 1) (by omega)
            have f := ihE (g1.2.1 + 1) (by omega)
            generalize eExpr l n (g1.2.1 + 1) = g2 at *
            obtain ⟨g2a, g2b, _⟩ := b
            refine tf_bnd f fun h2 => ?_
            have b := bw_ks l [[41]] (g2.2.1) (by omega)
            have f := ext_ks hx [[41]] (g2.2.1) (by omega)
            generalize ks l [[41]] (g2.2.1) = g3 at *
            obtain ⟨g3a, g3b⟩ := b
            refine tf_bnd f fun h3 => ?_
            exact fun _ => rfl
          rw [if_neg c7]
          rcases Nat.lt_or_ge g1.2.1 l.length with hlt2 | hge2
          · rw [hx.key_in hlt2, if_neg c7]
            have b := bw_ks l [[41]] (g1.2.1) (by omega)
            have f := ext_ks hx [[41]] (g1.2.1) (by omega)
            generalize ks l [[41]] (g1.2.1) = g2 at *
            obtain ⟨g2a, g2b⟩ := b
            refine tf_bnd f fun h2 => ?_
            exact fun _ => rfl
          · refine tf_no ?_
            rw [ks, if_neg (fun h => (by have := key_in h; omega))]
            show (6 : Int) ≠ 0
            decide
        · have b := e_bd_eExpr hl n (i + 1) (by omega)
          refine tf_no fun h => ?_
          have := b.2.2 h
          have := b.2.1
          omega
      · rw [if_neg ks0]; exact fun h => absurd (show (6 : Int) = 0 from h) (by decide)
theorem ext_exR {i : Nat} (hi : i ≤ l.length) : Tf p (exR l i) (exR l' (i + p)) := (ext_all hx hl hll (8 * l.length + 6) (8 * l'.length + 6) i (by omega) hi).1
end
end Go.Proofs.YtnogkihchgnbcaaGreatDoor

/- A list of tokens within another one: modules. Printed by gen8/q.py. -/
namespace Go.Proofs.YtnogkihchgnbcaaGreatDoor
open Go Go.Am Go.Sx
/-- as in the one list, if the end is not reached -/
def Tl {α : Type} (l : List Token) (p : Nat) (r r' : α × Nat × Int) : Prop := r.2.1 < l.length → Tf p r r'
theorem tl_bnd {l : List Token} {p : Nat} {r r' : RT} {f f' : Tr → Nat → LT} (h : Tf p r r') (hf : r.2.2 = 0 → Tl l p (f r.1 r.2.1) (f' r.1 (r.2.1 + p))) : Tl l p (bnd [] r f) (bnd [] r' f') := by
  intro hlt
  by_cases he : r.2.2 = 0
  · have e1 : bnd [] r f = f r.1 r.2.1 := if_pos he
    rw [e1] at hlt
    exact tf_bnd h fun _ => hf he hlt
  · exact tf_no he
section
variable {l l' : List Token} {p : Nat} (hx : Ext l l' p)
include hx
theorem ext_lg {i : Nat} (hi : i ≤ l.length) : Tf p (lgR l i) (lgR l' (i + p)) := by
  unfold lgR
  rw [hx.long hi]
  by_cases hk : (longS l (i : Int)).2 = true
  · rw [if_pos hk, if_pos hk, Nat.add_right_comm i p 1]; exact fun _ => rfl
  · rw [if_neg hk]; exact fun h => absurd (show (6 : Int) = 0 from h) (by decide)
theorem ext_cnR (hll : l.length ≤ l'.length) {i : Nat} (hi : i ≤ l.length) : Tf p (cnR l i) (cnR l' (i + p)) := fun h => ((ext_ty hx (3 * l.length + 3) (3 * l'.length + 3) i (by omega) hi).2.2.2 [] h).1
theorem ext_kt {s : List UInt8} {f f' : Nat → RT} {i : Nat} (hi : i ≤ l.length) (hf : ∀ j, j ≤ l.length → Tf p (f j) (f' (j + p))) : Tf p (bhd .nil l s f i) (bhd .nil l' s f' (i + p)) := by
  have b := bw_ks l [s] i hi
  unfold bhd
  exact tf_bnd (ext_ks hx [s] i hi) fun _ => hf _ b.2
theorem ext_any {i : Nat} (h : i < l.length) (t : List (List UInt8)) : anyK l' (i + p) t = anyK l i t := by
  unfold anyK
  congr 1
  funext s
  exact hx.key_in h s
theorem ext_app {i : Nat} (hi : i ≤ l.length) : ((nameS l' ((i + p : Nat) : Int)).2 = true ∧ keyS l' ((i + p + 1 : Nat) : Int) [40] = true) ↔ ((nameS l (i : Int)).2 = true ∧ keyS l ((i + 1 : Nat) : Int) [40] = true) := by
  rw [hx.name hi]
  constructor
  · rintro ⟨h1, h2⟩
    have := name_in h1
    rw [Nat.add_right_comm, hx.key (by omega) (by decide)] at h2
    exact ⟨h1, h2⟩
  · rintro ⟨h1, h2⟩
    rw [Nat.add_right_comm]
    exact ⟨h1, hx.key_t h2⟩
theorem tl_end {r r' : LT} {F : List Tr → Tr} (hr : r.2.1 ≤ l.length) (h : Tl l p r r') : Tf p (bnd .nil r fun k i => bnd .nil (ks l [kEnd] i) fun _ i => (F k, i, 0)) (bnd .nil r' fun k i => bnd .nil (ks l' [kEnd] i) fun _ i => (F k, i, 0)) := by
  by_cases he : r.2.2 = 0
  · by_cases hk : keyS l (r.2.1 : Int) kEnd = true
    · have hin := key_in hk
      exact tf_bnd (h (by omega)) fun _ => tf_bnd (ext_ks hx [kEnd] _ hr) fun _ => fun _ => rfl
    · have e1 : (bnd .nil r fun k i => bnd .nil (ks l [kEnd] i) fun _ i => (F k, i, 0)) = bnd .nil (ks l [kEnd] r.2.1) fun _ i => (F r.1, i, 0) := if_pos he
      rw [e1]
      refine tf_no ?_
      rw [ks, if_neg hk]
      exact show (6 : Int) ≠ 0 by decide
  · exact tf_no he
theorem no_key {i : Nat} (h : l.length ≤ i) (t : List UInt8) : keyS l (i : Int) t = false := by
  have _ := hx
  unfold keyS
  rw [tok_none (l := l) (by omega)]
variable (hl : l.length ≤ 20000) (hll : l.length ≤ l'.length)
include hl hll
theorem ext_m : ∀ n i, i ≤ l.length → Tf p (mMod l n i) (mMod l' n (i + p)) ∧ (∀ m, Tf p (mModL l n m i) (mModL l' n m (i + p))) ∧ Tf p (mPrim l n i) (mPrim l' n (i + p)) ∧ Tf p (mSig l n i) (mSig l' n (i + p)) ∧ (∀ m, Tf p (mSigL l n m i) (mSigL l' n m (i + p))) ∧
    Tf p (mBody l n i) (mBody l' n (i + p)) ∧ (∀ out, Tl l p (mSpecs l n out i) (mSpecs l' n out (i + p))) ∧ Tf p (mSpec l n i) (mSpec l' n (i + p)) ∧ (∀ top out, Tl l p (mDecls l n top out i) (mDecls l' n top out (i + p))) ∧ (∀ top, Tf p (mDecl l n top i) (mDecl l' n top (i + p))) := by
  intro n
  induction n with
  | zero =>
    intro i hi
    have no : ∀ {α : Type} {d : α} {j : Nat} {x : α × Nat × Int}, Tf p (d, j, 6) x := fun h => absurd (show (6 : Int) = 0 from h) (by decide)
    refine ⟨?_, fun m => ?_, ?_, ?_, fun m => ?_, ?_, fun out => ?_, ?_, fun top out => ?_, fun top => ?_⟩
    · rw [mMod]; exact no
    · rw [mModL]; exact no
    · rw [mPrim]; exact no
    · rw [mSig]; exact no
    · rw [mSigL]; exact no
    · rw [mBody]; exact no
    · rw [mSpecs]; exact fun _ => no
    · rw [mSpec]; exact no
    · rw [mDecls]; exact fun _ => no
    · rw [mDecl]; exact no
  | succ n ih =>
    intro i hi
    have ihM : ∀ j, j ≤ l.length → Tf p (mMod l n j) (mMod l' n (j + p)) := fun j h => (ih j h).1
    have ihML : ∀ j, j ≤ l.length → ∀ m, Tf p (mModL l n m j) (mModL l' n m (j + p)) := fun j h => (ih j h).2.1
    have ihP : ∀ j, j ≤ l.length → Tf p (mPrim l n j) (mPrim l' n (j + p)) := fun j h => (ih j h).2.2.1
    have ihS : ∀ j, j ≤ l.length → Tf p (mSig l n j) (mSig l' n (j + p)) := fun j h => (ih j h).2.2.2.1
    have ihSL : ∀ j, j ≤ l.length → ∀ m, Tf p (mSigL l n m j) (mSigL l' n m (j + p)) := fun j h => (ih j h).2.2.2.2.1
    have ihB : ∀ j, j ≤ l.length → Tf p (mBody l n j) (mBody l' n (j + p)) := fun j h => (ih j h).2.2.2.2.2.1
    have ihSs : ∀ j, j ≤ l.length → ∀ out, Tl l p (mSpecs l n out j) (mSpecs l' n out (j + p)) := fun j h => (ih j h).2.2.2.2.2.2.1
    have ihSp : ∀ j, j ≤ l.length → Tf p (mSpec l n j) (mSpec l' n (j + p)) := fun j h => (ih j h).2.2.2.2.2.2.2.1
    have ihDs : ∀ j, j ≤ l.length → ∀ top out, Tl l p (mDecls l n top out j) (mDecls l' n top out (j + p)) := fun j h => (ih j h).2.2.2.2.2.2.2.2.1
    have ihD : ∀ j, j ≤ l.length → ∀ top, Tf p (mDecl l n top j) (mDecl l' n top (j + p)) := fun j h => (ih j h).2.2.2.2.2.2.2.2.2
    refine ⟨?_, fun m => ?_, ?_, ?_, fun m => ?_, ?_, fun out => ?_, ?_, fun top out => ?_, fun top => ?_⟩
    · rw [mMod, mMod]
      have b := mb_P hl (n := n) (i := i) (by omega)
      have f := ihP (i) (by omega)
      generalize mPrim l n (i) = g1 at *
      obtain ⟨g1a, g1b, _⟩ := b
      refine tf_bnd f fun h1 => ?_
      exact ihML g1.2.1 g1b g1.1
    · rw [mModL, mModL, hx.key hi (by decide), hx.key hi (by decide)]
      by_cases k0 : keyS l (i : Int) [58] = true
      · rw [if_pos k0, if_pos k0, Nat.add_right_comm i p 1]
        have hin := key_in k0
        have b := mb_S hl (n := n) (i := i + 1) (by omega)
        have f := ihS (i + 1) (by omega)
        generalize mSig l n (i + 1) = g1 at *
        obtain ⟨g1a, g1b, _⟩ := b
        refine tf_bnd f fun h1 => ?_
        exact ihML g1.2.1 g1b _
      rw [if_neg k0, if_neg k0]
      by_cases k1 : keyS l (i : Int) [58, 62] = true
      · rw [if_pos k1, if_pos k1, Nat.add_right_comm i p 1]
        have hin := key_in k1
        have b := mb_S hl (n := n) (i := i + 1) (by omega)
        have f := ihS (i + 1) (by omega)
        generalize mSig l n (i + 1) = g1 at *
        obtain ⟨g1a, g1b, _⟩ := b
        refine tf_bnd f fun h1 => ?_
        exact ihML g1.2.1 g1b _
      rw [if_neg k1, if_neg k1]
      exact fun _ => rfl
    · rw [mPrim, mPrim, hx.key hi (by decide), hx.key hi (by decide)]
      by_cases k0 : keyS l (i : Int) kStruct = true
      · rw [if_pos k0, if_pos k0, Nat.add_right_comm i p 1]
        have hin := key_in k0
        exact tl_end hx (mb_Ds hl (by omega)).2.1 (ihDs (i + 1) (by omega) false [])
      rw [if_neg k0, if_neg k0]
      by_cases k1 : keyS l (i : Int) [40] = true
      · rw [if_pos k1, if_pos k1, Nat.add_right_comm i p 1]
        have hin := key_in k1
        have b := mb_M hl (n := n) (i := i + 1) (by omega)
        have f := ihM (i + 1) (by omega)
        generalize mMod l n (i + 1) = g1 at *
        obtain ⟨g1a, g1b, _⟩ := b
        refine tf_bnd f fun h1 => ?_
        have b := bw_ks l [[41]] (g1.2.1) (by omega)
        have f := ext_ks hx [[41]] (g1.2.1) (by omega)
        generalize ks l [[41]] (g1.2.1) = g2 at *
        obtain ⟨g2a, g2b⟩ := b
        refine tf_bnd f fun h2 => ?_
        exact fun _ => rfl
      rw [if_neg k1, if_neg k1]
      by_cases k2 : (nameS l (i : Int)).2 = true ∧ keyS l ((i + 1 : Nat) : Int) [40] = true
      · rw [if_pos k2, if_pos ((ext_app hx hi).2 k2), Nat.add_right_comm i p 2, hx.name hi]
        have hin := key_in k2.2
        have b := mb_M hl (n := n) (i := i + 2) (by omega)
        have f := ihM (i + 2) (by omega)
        generalize mMod l n (i + 2) = g1 at *
        obtain ⟨g1a, g1b, _⟩ := b
        refine tf_bnd f fun h1 => ?_
        have b := bw_ks l [[41]] (g1.2.1) (by omega)
        have f := ext_ks hx [[41]] (g1.2.1) (by omega)
        generalize ks l [[41]] (g1.2.1) = g2 at *
        obtain ⟨g2a, g2b⟩ := b
        refine tf_bnd f fun h2 => ?_
        exact fun _ => rfl
      rw [if_neg k2, if_neg (mt (ext_app hx hi).1 k2)]
      have b := bw_lg (l := l) (i := i) (by omega)
      have f := ext_lg hx (i := i) (by omega)
      generalize lgR l (i) = g1 at *
      obtain ⟨g1a, g1b⟩ := b
      refine tf_bnd f fun h1 => ?_
      exact fun _ => rfl
    · rw [mSig, mSig]
      have b := mb_B hl (n := n) (i := i) (by omega)
      have f := ihB (i) (by omega)
      generalize mBody l n (i) = g1 at *
      obtain ⟨g1a, g1b, _⟩ := b
      refine tf_bnd f fun h1 => ?_
      exact ihSL g1.2.1 g1b g1.1
    · rw [mSigL, mSigL, hx.key hi (by decide)]
      by_cases k0 : keyS l (i : Int) kWhere = true
      · rw [if_pos k0, if_pos k0, Nat.add_right_comm i p 1]
        have hin := key_in k0
        have b := bw_ks l [kType] (i + 1) (by omega)
        have f := ext_ks hx [kType] (i + 1) (by omega)
        generalize ks l [kType] (i + 1) = g1 at *
        obtain ⟨g1a, g1b⟩ := b
        refine tf_bnd f fun h1 => ?_
        have b := bw_lg (l := l) (i := g1.2.1) (by omega)
        have f := ext_lg hx (i := g1.2.1) (by omega)
        generalize lgR l (g1.2.1) = g2 at *
        obtain ⟨g2a, g2b⟩ := b
        refine tf_bnd f fun h2 => ?_
        have b := bw_ks l [[61]] (g2.2.1) (by omega)
        have f := ext_ks hx [[61]] (g2.2.1) (by omega)
        generalize ks l [[61]] (g2.2.1) = g3 at *
        obtain ⟨g3a, g3b⟩ := b
        refine tf_bnd f fun h3 => ?_
        have b := ty_pz hl (i := g3.2.1) (by omega)
        have f := ext_tyR hx hll (i := g3.2.1) (by omega)
        generalize tyR l (g3.2.1) = g4 at *
        obtain ⟨g4a, g4b, _⟩ := b
        refine tf_bnd f fun h4 => ?_
        exact ihSL g4.2.1 g4b _
      rw [if_neg k0, if_neg k0]
      exact fun _ => rfl
    · rw [mBody, mBody, hx.key hi (by decide)]
      by_cases k0 : keyS l (i : Int) kSg = true
      · rw [if_pos k0, if_pos k0, Nat.add_right_comm i p 1]
        have hin := key_in k0
        exact tl_end hx (mb_Ss hl (by omega)).2.1 (ihSs (i + 1) (by omega) [])
      rw [if_neg k0, if_neg k0]
      have b := bw_nm (l := l) (i := i) (by omega)
      have f := ext_nm hx (i := i) (by omega)
      generalize nmR l (i) = g1 at *
      obtain ⟨g1a, g1b⟩ := b
      refine tf_bnd f fun h1 => ?_
      exact fun _ => rfl
    · rcases Nat.lt_or_ge i l.length with hlt | hge
      · rw [mSpecs, mSpecs, ext_any hx hlt]
        by_cases k0 : anyK l i [kVal, kType, kData, kStr, kInc, kShare] = true
        · rw [if_pos k0, if_pos k0]
          have b := mb_Sp hl (n := n) (i := i) hi
          have f := ihSp i hi
          generalize mSpec l n i = g1 at *
          obtain ⟨g1a, g1b, _⟩ := b
          exact tl_bnd f fun h1 => ihSs g1.2.1 g1b _
        rw [if_neg k0, if_neg k0]
        exact fun _ _ => rfl
      · rw [mSpecs]
        intro hlt
        rw [if_neg (by simp only [anyK, no_key hx hge, List.any_cons, List.any_nil, Bool.or_false, Bool.and_false]; decide)] at hlt
        exact absurd hlt (by simp only; omega)
    · rcases Nat.lt_or_ge i l.length with hlt | hge
      rotate_left
      · rw [mSpec]
        simp only [no_key hx hge, Bool.false_eq_true, and_false, if_false]
        exact fun h => absurd (show (6 : Int) = 0 from h) (by decide)
      rw [mSpec, mSpec, hx.key_in hlt, hx.key_in hlt, hx.key_in hlt, hx.key_in hlt, hx.key_in hlt, hx.key_in hlt]
      by_cases k0 : keyS l (i : Int) kVal = true
      · rw [if_pos k0, if_pos k0, Nat.add_right_comm i p 1]
        have hin := key_in k0
        have b := bw_nm (l := l) (i := i + 1) (by omega)
        have f := ext_nm hx (i := i + 1) (by omega)
        generalize nmR l (i + 1) = g1 at *
        obtain ⟨g1a, g1b⟩ := b
        refine tf_bnd f fun h1 => ?_
        have b := kt_pz (s := [58]) (f := fun j => tyR l j) (i := g1.2.1) (by omega) (fun j hj => ty_pz hl hj)
        have f := ext_kt hx (s := [58]) (f := fun j => tyR l j) (f' := fun j => tyR  l' j) (i := g1.2.1) (by omega) (fun j hj => ext_tyR hx hll hj)
        generalize bhd .nil l [58] (fun j => tyR l j) (g1.2.1) = g2 at *
        obtain ⟨g2a, g2b, _⟩ := b
        refine tf_bnd f fun h2 => ?_
        exact fun _ => rfl
      rw [if_neg k0, if_neg k0]
      by_cases k1 : keyS l (i : Int) kType = true
      · rw [if_pos k1, if_pos k1, Nat.add_right_comm i p 1]
        have hin := key_in k1
        have b := bw_nm (l := l) (i := i + 1) (by omega)
        have f := ext_nm hx (i := i + 1) (by omega)
        generalize nmR l (i + 1) = g1 at *
        obtain ⟨g1a, g1b⟩ := b
        refine tf_bnd f fun h1 => ?_
        rw [hx.key g1b (by decide)]
        by_cases j1 : keyS l (g1.2.1 : Int) [61] = true
        · rw [if_pos j1, if_pos j1, Nat.add_right_comm g1.2.1 p 1]
          have hin2 := key_in j1
          have b := ty_pz hl (i := g1.2.1 + 1) (by omega)
          have f := ext_tyR hx hll (i := g1.2.1 + 1) (by omega)
          generalize tyR l (g1.2.1 + 1) = g2 at *
          obtain ⟨g2a, g2b, _⟩ := b
          refine tf_bnd f fun h2 => ?_
          exact fun _ => rfl
        rw [if_neg j1, if_neg j1]
        exact fun _ => rfl
      rw [if_neg k1, if_neg k1]
      by_cases k2 : keyS l (i : Int) kData = true
      · rw [if_pos k2, if_pos k2, Nat.add_right_comm i p 1]
        have hin := key_in k2
        have b := bw_nm (l := l) (i := i + 1) (by omega)
        have f := ext_nm hx (i := i + 1) (by omega)
        generalize nmR l (i + 1) = g1 at *
        obtain ⟨g1a, g1b⟩ := b
        refine tf_bnd f fun h1 => ?_
        have b := bw_ks l [[61]] (g1.2.1) (by omega)
        have f := ext_ks hx [[61]] (g1.2.1) (by omega)
        generalize ks l [[61]] (g1.2.1) = g2 at *
        obtain ⟨g2a, g2b⟩ := b
        refine tf_bnd f fun h2 => ?_
        have b := cn_pq hl (i := g2.2.1) (by omega)
        have f := ext_cnR hx hll (i := g2.2.1) (by omega)
        generalize cnR l (g2.2.1) = g3 at *
        obtain ⟨g3a, g3b, _⟩ := b
        refine tf_bnd f fun h3 => ?_
        exact fun _ => rfl
      rw [if_neg k2, if_neg k2]
      by_cases k3 : keyS l (i : Int) kStr = true
      · rw [if_pos k3, if_pos k3, Nat.add_right_comm i p 1]
        have hin := key_in k3
        have b := bw_nm (l := l) (i := i + 1) (by omega)
        have f := ext_nm hx (i := i + 1) (by omega)
        generalize nmR l (i + 1) = g1 at *
        obtain ⟨g1a, g1b⟩ := b
        refine tf_bnd f fun h1 => ?_
        have b := kt_pz (s := [58]) (f := fun j => mSig l n j) (i := g1.2.1) (by omega) (fun j hj => mb_S hl hj)
        have f := ext_kt hx (s := [58]) (f := fun j => mSig l n j) (f' := fun j => mSig  l' n j) (i := g1.2.1) (by omega) (fun j hj => ihS j hj)
        generalize bhd .nil l [58] (fun j => mSig l n j) (g1.2.1) = g2 at *
        obtain ⟨g2a, g2b, _⟩ := b
        refine tf_bnd f fun h2 => ?_
        exact fun _ => rfl
      rw [if_neg k3, if_neg k3]
      by_cases k4 : keyS l (i : Int) kInc = true
      · rw [if_pos k4, if_pos k4, Nat.add_right_comm i p 1]
        have hin := key_in k4
        have b := mb_S hl (n := n) (i := i + 1) (by omega)
        have f := ihS (i + 1) (by omega)
        generalize mSig l n (i + 1) = g1 at *
        obtain ⟨g1a, g1b, _⟩ := b
        refine tf_bnd f fun h1 => ?_
        exact fun _ => rfl
      rw [if_neg k4, if_neg k4]
      by_cases k5 : keyS l (i : Int) kShare = true
      · rw [if_pos k5, if_pos k5, Nat.add_right_comm i p 1]
        have hin := key_in k5
        have b := bw_ks l [kType] (i + 1) (by omega)
        have f := ext_ks hx [kType] (i + 1) (by omega)
        generalize ks l [kType] (i + 1) = g1 at *
        obtain ⟨g1a, g1b⟩ := b
        refine tf_bnd f fun h1 => ?_
        have b := bw_lg (l := l) (i := g1.2.1) (by omega)
        have f := ext_lg hx (i := g1.2.1) (by omega)
        generalize lgR l (g1.2.1) = g2 at *
        obtain ⟨g2a, g2b⟩ := b
        refine tf_bnd f fun h2 => ?_
        have b := bw_ks l [[61]] (g2.2.1) (by omega)
        have f := ext_ks hx [[61]] (g2.2.1) (by omega)
        generalize ks l [[61]] (g2.2.1) = g3 at *
        obtain ⟨g3a, g3b⟩ := b
        refine tf_bnd f fun h3 => ?_
        have b := bw_lg (l := l) (i := g3.2.1) (by omega)
        have f := ext_lg hx (i := g3.2.1) (by omega)
        generalize lgR l (g3.2.1) = g4 at *
        obtain ⟨g4a, g4b⟩ := b
        refine tf_bnd f fun h4 => ?_
        exact fun _ => rfl
      rw [if_neg k5, if_neg k5]
      exact fun h => absurd (show (6 : Int) = 0 from h) (by decide)
    · rcases Nat.lt_or_ge i l.length with hlt | hge
      · rw [mDecls, mDecls, ext_any hx hlt, ext_any hx hlt]
        by_cases k0 : (anyK l i [kVal, kType, kData, kStr, kOpen, kInc] || (top && anyK l i [kSig, kFun])) = true
        · rw [if_pos k0, if_pos k0]
          have b := mb_D hl (n := n) (top := top) (i := i) hi
          have f := ihD i hi top
          generalize mDecl l n top i = g1 at *
          obtain ⟨g1a, g1b, _⟩ := b
          exact tl_bnd f fun h1 => ihDs g1.2.1 g1b top _
        rw [if_neg k0, if_neg k0]
        exact fun _ _ => rfl
      · rw [mDecls]
        intro hlt
        rw [if_neg (by simp only [anyK, no_key hx hge, List.any_cons, List.any_nil, Bool.or_false, Bool.and_false]; decide)] at hlt
        exact absurd hlt (by simp only; omega)
    · rcases Nat.lt_or_ge i l.length with hlt | hge
      rotate_left
      · rw [mDecl]
        simp only [no_key hx hge, Bool.false_eq_true, and_false, if_false]
        exact fun h => absurd (show (6 : Int) = 0 from h) (by decide)
      rw [mDecl, mDecl, hx.key_in hlt, hx.key_in hlt, hx.key_in hlt, hx.key_in hlt, hx.key_in hlt, hx.key_in hlt, hx.key_in hlt, hx.key_in hlt]
      by_cases k0 : keyS l (i : Int) kVal = true
      · rw [if_pos k0, if_pos k0, Nat.add_right_comm i p 1]
        have hin := key_in k0
        have b := bw_nm (l := l) (i := i + 1) (by omega)
        have f := ext_nm hx (i := i + 1) (by omega)
        generalize nmR l (i + 1) = g1 at *
        obtain ⟨g1a, g1b⟩ := b
        refine tf_bnd f fun h1 => ?_
        rw [hx.key g1b (by decide)]
        by_cases j0 : keyS l (g1.2.1 : Int) [58] = true
        · rw [if_pos j0, if_pos j0, Nat.add_right_comm g1.2.1 p 1]
          have hin2 := key_in j0
          have b := ty_pz hl (i := g1.2.1 + 1) (by omega)
          have f := ext_tyR hx hll (i := g1.2.1 + 1) (by omega)
          generalize tyR l (g1.2.1 + 1) = g2 at *
          obtain ⟨g2a, g2b, _⟩ := b
          refine tf_bnd f fun h2 => ?_
          have b := kt_pz (s := [61]) (f := fun j => exR l j) (i := g2.2.1) (by omega) (fun j hj => ex_pz hl hj)
          have f := ext_kt hx (s := [61]) (f := fun j => exR l j) (f' := fun j => exR  l' j) (i := g2.2.1) (by omega) (fun j hj => ext_exR hx hl hll hj)
          generalize bhd .nil l [61] (fun j => exR l j) (g2.2.1) = g3 at *
          obtain ⟨g3a, g3b, _⟩ := b
          refine tf_bnd f fun h3 => ?_
          exact fun _ => rfl
        rw [if_neg j0, if_neg j0]
        have b := kt_pz (s := [61]) (f := fun j => exR l j) (i := g1.2.1) (by omega) (fun j hj => ex_pz hl hj)
        have f := ext_kt hx (s := [61]) (f := fun j => exR l j) (f' := fun j => exR  l' j) (i := g1.2.1) (by omega) (fun j hj => ext_exR hx hl hll hj)
        generalize bhd .nil l [61] (fun j => exR l j) (g1.2.1) = g2 at *
        obtain ⟨g2a, g2b, _⟩ := b
        refine tf_bnd f fun h2 => ?_
        exact fun _ => rfl
      rw [if_neg k0, if_neg k0]
      by_cases k1 : keyS l (i : Int) kType = true
      · rw [if_pos k1, if_pos k1, Nat.add_right_comm i p 1]
        have hin := key_in k1
        have b := bw_nm (l := l) (i := i + 1) (by omega)
        have f := ext_nm hx (i := i + 1) (by omega)
        generalize nmR l (i + 1) = g1 at *
        obtain ⟨g1a, g1b⟩ := b
        refine tf_bnd f fun h1 => ?_
        have b := kt_pz (s := [61]) (f := fun j => tyR l j) (i := g1.2.1) (by omega) (fun j hj => ty_pz hl hj)
        have f := ext_kt hx (s := [61]) (f := fun j => tyR l j) (f' := fun j => tyR  l' j) (i := g1.2.1) (by omega) (fun j hj => ext_tyR hx hll hj)
        generalize bhd .nil l [61] (fun j => tyR l j) (g1.2.1) = g2 at *
        obtain ⟨g2a, g2b, _⟩ := b
        refine tf_bnd f fun h2 => ?_
        exact fun _ => rfl
      rw [if_neg k1, if_neg k1]
      by_cases k2 : keyS l (i : Int) kData = true
      · rw [if_pos k2, if_pos k2, Nat.add_right_comm i p 1]
        have hin := key_in k2
        have b := bw_nm (l := l) (i := i + 1) (by omega)
        have f := ext_nm hx (i := i + 1) (by omega)
        generalize nmR l (i + 1) = g1 at *
        obtain ⟨g1a, g1b⟩ := b
        refine tf_bnd f fun h1 => ?_
        have b := bw_ks l [[61]] (g1.2.1) (by omega)
        have f := ext_ks hx [[61]] (g1.2.1) (by omega)
        generalize ks l [[61]] (g1.2.1) = g2 at *
        obtain ⟨g2a, g2b⟩ := b
        refine tf_bnd f fun h2 => ?_
        have b := cn_pq hl (i := g2.2.1) (by omega)
        have f := ext_cnR hx hll (i := g2.2.1) (by omega)
        generalize cnR l (g2.2.1) = g3 at *
        obtain ⟨g3a, g3b, _⟩ := b
        refine tf_bnd f fun h3 => ?_
        exact fun _ => rfl
      rw [if_neg k2, if_neg k2]
      by_cases k3 : keyS l (i : Int) kStr = true
      · rw [if_pos k3, if_pos k3, Nat.add_right_comm i p 1]
        have hin := key_in k3
        have b := bw_nm (l := l) (i := i + 1) (by omega)
        have f := ext_nm hx (i := i + 1) (by omega)
        generalize nmR l (i + 1) = g1 at *
        obtain ⟨g1a, g1b⟩ := b
        refine tf_bnd f fun h1 => ?_
        have b := kt_pz (s := [61]) (f := fun j => mMod l n j) (i := g1.2.1) (by omega) (fun j hj => mb_M hl hj)
        have f := ext_kt hx (s := [61]) (f := fun j => mMod l n j) (f' := fun j => mMod  l' n j) (i := g1.2.1) (by omega) (fun j hj => ihM j hj)
        generalize bhd .nil l [61] (fun j => mMod l n j) (g1.2.1) = g2 at *
        obtain ⟨g2a, g2b, _⟩ := b
        refine tf_bnd f fun h2 => ?_
        exact fun _ => rfl
      rw [if_neg k3, if_neg k3]
      by_cases k4 : keyS l (i : Int) kOpen = true
      · rw [if_pos k4, if_pos k4, Nat.add_right_comm i p 1]
        have hin := key_in k4
        have b := bw_lg (l := l) (i := i + 1) (by omega)
        have f := ext_lg hx (i := i + 1) (by omega)
        generalize lgR l (i + 1) = g1 at *
        obtain ⟨g1a, g1b⟩ := b
        refine tf_bnd f fun h1 => ?_
        exact fun _ => rfl
      rw [if_neg k4, if_neg k4]
      by_cases k5 : keyS l (i : Int) kInc = true
      · rw [if_pos k5, if_pos k5, Nat.add_right_comm i p 1]
        have hin := key_in k5
        have b := bw_lg (l := l) (i := i + 1) (by omega)
        have f := ext_lg hx (i := i + 1) (by omega)
        generalize lgR l (i + 1) = g1 at *
        obtain ⟨g1a, g1b⟩ := b
        refine tf_bnd f fun h1 => ?_
        exact fun _ => rfl
      rw [if_neg k5, if_neg k5]
      by_cases k6 : top = true ∧ keyS l (i : Int) kSig = true
      · rw [if_pos k6, if_pos k6, Nat.add_right_comm i p 1]
        have hin := key_in k6.2
        have b := bw_nm (l := l) (i := i + 1) (by omega)
        have f := ext_nm hx (i := i + 1) (by omega)
        generalize nmR l (i + 1) = g1 at *
        obtain ⟨g1a, g1b⟩ := b
        refine tf_bnd f fun h1 => ?_
        have b := kt_pz (s := [61]) (f := fun j => mSig l n j) (i := g1.2.1) (by omega) (fun j hj => mb_S hl hj)
        have f := ext_kt hx (s := [61]) (f := fun j => mSig l n j) (f' := fun j => mSig  l' n j) (i := g1.2.1) (by omega) (fun j hj => ihS j hj)
        generalize bhd .nil l [61] (fun j => mSig l n j) (g1.2.1) = g2 at *
        obtain ⟨g2a, g2b, _⟩ := b
        refine tf_bnd f fun h2 => ?_
        exact fun _ => rfl
      rw [if_neg k6, if_neg k6]
      by_cases k7 : top = true ∧ keyS l (i : Int) kFun = true
      · rw [if_pos k7, if_pos k7, Nat.add_right_comm i p 1]
        have hin := key_in k7.2
        have b := bw_nm (l := l) (i := i + 1) (by omega)
        have f := ext_nm hx (i := i + 1) (by omega)
        generalize nmR l (i + 1) = g1 at *
        obtain ⟨g1a, g1b⟩ := b
        refine tf_bnd f fun h1 => ?_
        have b := bw_ks l [[40]] (g1.2.1) (by omega)
        have f := ext_ks hx [[40]] (g1.2.1) (by omega)
        generalize ks l [[40]] (g1.2.1) = g2 at *
        obtain ⟨g2a, g2b⟩ := b
        refine tf_bnd f fun h2 => ?_
        have b := bw_nm (l := l) (i := g2.2.1) (by omega)
        have f := ext_nm hx (i := g2.2.1) (by omega)
        generalize nmR l (g2.2.1) = g3 at *
        obtain ⟨g3a, g3b⟩ := b
        refine tf_bnd f fun h3 => ?_
        have b := kt_pz (s := [58]) (f := fun j => mSig l n j) (i := g3.2.1) (by omega) (fun j hj => mb_S hl hj)
        have f := ext_kt hx (s := [58]) (f := fun j => mSig l n j) (f' := fun j => mSig  l' n j) (i := g3.2.1) (by omega) (fun j hj => ihS j hj)
        generalize bhd .nil l [58] (fun j => mSig l n j) (g3.2.1) = g4 at *
        obtain ⟨g4a, g4b, _⟩ := b
        refine tf_bnd f fun h4 => ?_
        have b := bw_ks l [[41]] (g4.2.1) (by omega)
        have f := ext_ks hx [[41]] (g4.2.1) (by omega)
        generalize ks l [[41]] (g4.2.1) = g5 at *
        obtain ⟨g5a, g5b⟩ := b
        refine tf_bnd f fun h5 => ?_
        have b := kt_pz (s := [61]) (f := fun j => mMod l n j) (i := g5.2.1) (by omega) (fun j hj => mb_M hl hj)
        have f := ext_kt hx (s := [61]) (f := fun j => mMod l n j) (f' := fun j => mMod  l' n j) (i := g5.2.1) (by omega) (fun j hj => ihM j hj)
        generalize bhd .nil l [61] (fun j => mMod l n j) (g5.2.1) = g6 at *
        obtain ⟨g6a, g6b, _⟩ := b
        refine tf_bnd f fun h6 => ?_
        exact fun _ => rfl
      rw [if_neg k7, if_neg k7]
      exact fun h => absurd (show (6 : Int) = 0 from h) (by decide)
end
end Go.Proofs.YtnogkihchgnbcaaGreatDoor

/- Two programs, one behind the other, are one: the law PmodJoins. -/
namespace Go.Proofs.YtnogkihchgnbcaaGreatDoor
open Go Go.Am Go.Sx
theorem tok_nat (l : List Token) (i : Nat) : tokAt l ((i : Nat) : Int) = l[i]? := by
  unfold tokAt
  by_cases h : i < l.length
  · rw [if_pos (by omega), getI_nat]
  · rw [if_neg (by omega), List.getElem?_eq_none (by omega)]
theorem ext_head {l r : List Token} (h : ∀ k, r[0]? = some k → k.1 = 3 ∧ k.2.1 ∈ clos) : Ext l (l ++ r) 0 where
  tk := fun i hi => by rw [Nat.add_zero, tok_nat, tok_nat, List.getElem?_append_left hi]
  fin := fun k hk => by
    rw [Nat.add_zero, tok_nat, List.getElem?_append_right (Nat.le_refl _), Nat.sub_self] at hk
    exact h k hk
theorem ext_tail {l r : List Token} {f : Token → Token} (hf : ∀ k, tx (f k) = tx k) : Ext r (l ++ r.map f) l.length where
  tk := fun i hi => by
    rw [tok_nat, tok_nat, List.getElem?_append_right (by omega), show i + l.length - l.length = i by omega, List.getElem?_map]
    cases r[i]? with
    | none => rfl
    | some k => exact congrArg some (hf k)
  fin := fun k hk => by
    rw [tok_nat, List.getElem?_eq_none (by simp; omega)] at hk
    cases hk
theorem bnd_inv {α β : Type} {d : β} {r : α × Nat × Int} {f : α → Nat → β × Nat × Int} {x : β} {j : Nat} (h : bnd d r f = (x, j, 0)) : r.2.2 = 0 ∧ f r.1 r.2.1 = (x, j, 0) := by
  by_cases he : r.2.2 = 0
  · have e1 : bnd d r f = f r.1 r.2.1 := if_pos he
    exact ⟨he, e1 ▸ h⟩
  · have e1 : bnd d r f = (d, r.2.1, r.2.2) := if_neg he
    rw [e1] at h
    exact absurd (congrArg (·.2.2) h) he
theorem key_tok {l : List Token} {i : Int} {t : List UInt8} (h : keyS l i t = true) : ∃ k, tokAt l i = some k ∧ k.1 = 3 ∧ k.2.1 = t := by
  unfold keyS at h
  cases hk : tokAt l i with
  | none => rw [hk] at h; cases h
  | some k =>
    rw [hk] at h
    simp only [Bool.and_eq_true, decide_eq_true_eq] at h
    exact ⟨k, rfl, h.1, h.2⟩
theorem any_tok {l : List Token} {i : Nat} {t : List (List UInt8)} (h : anyK l i t = true) : ∃ k, tokAt l (i : Int) = some k ∧ k.1 = 3 ∧ k.2.1 ∈ t := by
  unfold anyK at h
  obtain ⟨s, hs, hk⟩ := List.any_eq_true.1 h
  obtain ⟨k, h1, h2, h3⟩ := key_tok hk
  exact ⟨k, h1, h2, h3 ▸ hs⟩
theorem beg_tok {l : List Token} {i : Nat} (h : begD l true i = true) : ∃ k, tokAt l (i : Int) = some k ∧ k.1 = 3 ∧ k.2.1 ∈ clos := by
  unfold begD at h
  simp only [Bool.true_and, Bool.or_eq_true] at h
  rcases h with h | h
  · obtain ⟨k, h1, h2, h3⟩ := any_tok h
    exact ⟨k, h1, h2, by simp only [clos, List.mem_cons, List.not_mem_nil, or_false] at h3 ⊢; rcases h3 with e | e | e | e | e | e <;> simp [e]⟩
  · obtain ⟨k, h1, h2, h3⟩ := any_tok h
    exact ⟨k, h1, h2, by simp only [clos, List.mem_cons, List.not_mem_nil, or_false] at h3 ⊢; rcases h3 with e | e <;> simp [e]⟩
theorem mDecls_s (l : List Token) (n : Nat) (out : List Tr) (i : Nat) : mDecls l (n + 1) true out i = if begD l true i = true then bnd [] (mDecl l n true i) fun k i => mDecls l n true (out ++ [k]) i else (out, i, 0) := by rw [mDecls]; rfl
theorem beg_first {l : List Token} {n : Nat} {ks : List Tr} (h : mDecls l n true [] 0 = (ks, l.length, 0)) : ∀ k, l[0]? = some k → k.1 = 3 ∧ k.2.1 ∈ clos := by
  intro k hk
  cases n with
  | zero => rw [mDecls] at h; exact absurd (show (6 : Int) = 0 from congrArg (·.2.2) h) (by decide)
  | succ n =>
    rw [mDecls_s] at h
    by_cases hb : begD l true 0 = true
    · obtain ⟨q, h1, h2⟩ := beg_tok hb
      rw [tok_nat, hk] at h1
      exact Option.some.inj h1 ▸ h2
    · rw [if_neg hb] at h
      have : 0 = l.length := congrArg (·.2.1) h
      rw [List.getElem?_eq_none (by omega)] at hk
      cases hk
section
variable {l l' : List Token} {p : Nat} (hx : Ext l l' p) (hl : l.length ≤ 20000) (hll : l.length ≤ l'.length)
include hx hl hll
theorem beg_ext {i : Nat} (hi : i < l.length) : begD l' true (i + p) = begD l true i := by
  have _ := hl
  have _ := hll
  unfold begD
  rw [ext_any hx hi, ext_any hx hi]
theorem beg_lt {i : Nat} (h : begD l true i = true) : i < l.length := by
  have _ := hx
  have _ := hl
  have _ := hll
  obtain ⟨k, h1, _⟩ := beg_tok h
  rw [tok_nat] at h1
  exact (List.getElem?_eq_some_iff.1 h1).1
theorem decls_head : ∀ (n i : Nat) (out ks : List Tr), i ≤ l.length → mDecls l n true out i = (ks, l.length, 0) → out.length ≤ ks.length ∧ mDecls l' n true out (i + p) = mDecls l' (n - (ks.length - out.length)) true ks (l.length + p) := by
  intro n
  induction n with
  | zero => intro i out ks _ h; rw [mDecls] at h; exact absurd (show (6 : Int) = 0 from congrArg (·.2.2) h) (by decide)
  | succ n ih =>
    intro i out ks hi h
    rw [mDecls_s] at h
    by_cases hb : begD l true i = true
    · have hlt := beg_lt hx hl hll hb
      rw [if_pos hb] at h
      obtain ⟨h1, h2⟩ := bnd_inv h
      have b := mb_D hl (n := n) (top := true) hi
      have f := (ext_m hx hl hll n i hi).2.2.2.2.2.2.2.2.2 true h1
      generalize mDecl l n true i = g at *
      obtain ⟨k, j, e⟩ := g
      obtain ⟨b1, b2, _⟩ := b
      simp only at b1 b2 h1 h2 f
      subst h1
      obtain ⟨q1, q2⟩ := ih j (out ++ [k]) ks b2 h2
      rw [List.length_append, List.length_singleton] at q1 q2
      refine ⟨by omega, ?_⟩
      rw [mDecls_s, if_pos (by rw [beg_ext hx hl hll hlt]; exact hb), f, bnd_ok, q2]
      congr 1
      omega
    · rw [if_neg hb] at h
      have e1 : out = ks := congrArg (·.1) h
      have e2 : i = l.length := congrArg (·.2.1) h
      subst e1 e2
      exact ⟨Nat.le_refl _, by rw [Nat.sub_self]; rfl⟩
theorem decls_tail (hp : l.length + p = l'.length) (pre : List Tr) : ∀ (n i : Nat) (out ks : List Tr), i ≤ l.length → mDecls l n true out i = (ks, l.length, 0) → mDecls l' n true (pre ++ out) (i + p) = (pre ++ ks, l.length + p, 0) := by
  intro n
  induction n with
  | zero => intro i out ks _ h; rw [mDecls] at h; exact absurd (show (6 : Int) = 0 from congrArg (·.2.2) h) (by decide)
  | succ n ih =>
    intro i out ks hi h
    rw [mDecls_s] at h
    by_cases hb : begD l true i = true
    · have hlt := beg_lt hx hl hll hb
      rw [if_pos hb] at h
      obtain ⟨h1, h2⟩ := bnd_inv h
      have b := mb_D hl (n := n) (top := true) hi
      have f := (ext_m hx hl hll n i hi).2.2.2.2.2.2.2.2.2 true h1
      generalize mDecl l n true i = g at *
      obtain ⟨k, j, e⟩ := g
      obtain ⟨b1, b2, _⟩ := b
      simp only at b1 b2 h1 h2 f
      subst h1
      have q := ih j (out ++ [k]) ks b2 h2
      rw [mDecls_s, if_pos (by rw [beg_ext hx hl hll hlt]; exact hb), f, bnd_ok, List.append_assoc, q]
    · rw [if_neg hb] at h
      have e1 : out = ks := congrArg (·.1) h
      have e2 : i = l.length := congrArg (·.2.1) h
      subst e1 e2
      rw [mDecls_s, if_neg]
      intro hb'
      obtain ⟨k, h1, _⟩ := beg_tok hb'
      rw [tok_nat, List.getElem?_eq_none (by omega)] at h1
      cases h1
end
/-- a text's tree, or none -/
theorem src_split {s : List UInt8} (hs : s.length ≤ 16384) {N : Nat} (hN : 8 * s.length + 2 ≤ N) : (∃ (j e : Int), e ≠ 0 ∧ Ev (fun K => pmod_Source K s) (.nil, j, e)) ∨
    (∃ (l : List Token) (ks : List Tr), Rk s ∧ lxS s 0 [] = (l, 0, 0) ∧ l.length ≤ s.length ∧ mDecls l N true [] 0 = (ks, l.length, 0) ∧ sizeT (progT ks) ≤ 8192 ∧ deepT (progT ks) ≤ 60 ∧ wL ks ≤ 2 * l.length ∧ Ev (fun K => pmod_Source K s) (progT ks, 0, 0)) := by
  by_cases h : Rk s ∧ ∃ l, lxS s 0 [] = (l, 0, 0)
  · obtain ⟨hr, l, hx⟩ := h
    obtain ⟨hl, _⟩ := lex_len hx
    have hl2 : l.length ≤ 20000 := by omega
    have hsrc := ev_src (n := N) hs hr hx (by omega)
    have b := mb_Ds hl2 (n := N) (top := true) (out := []) (i := 0) (Nat.zero_le _)
    generalize hg : mDecls l N true [] 0 = g at *
    obtain ⟨ks, j, e⟩ := g
    obtain ⟨_, b2, b3⟩ := b
    simp only [wL_nil] at b2 b3
    unfold srcA at hsrc
    simp only at hsrc
    by_cases hc : e = 0 ∧ j = l.length
    · rw [if_pos hc] at hsrc
      obtain ⟨rfl, rfl⟩ := hc
      by_cases h1 : 8192 < sizeT (progT ks)
      · rw [if_pos h1] at hsrc
        exact .inl ⟨_, _, by decide, hsrc⟩
      rw [if_neg h1] at hsrc
      by_cases h2 : 60 < deepT (progT ks)
      · rw [if_pos h2] at hsrc
        exact .inl ⟨_, _, by decide, hsrc⟩
      rw [if_neg h2] at hsrc
      exact .inr ⟨l, ks, hr, hx, hl, hg, Nat.le_of_not_lt h1, Nat.le_of_not_lt h2, by have := b3 rfl; omega, hsrc⟩
    · rw [if_neg hc] at hsrc
      refine .inl ⟨_, _, ?_, hsrc⟩
      by_cases he : e = 0
      · rw [if_pos he]; decide
      · rw [if_neg he]; exact he
  · obtain ⟨j, e, he, _, _, hx⟩ := ev_src_no hs h
    exact .inl ⟨_, e, he, hx⟩
theorem deepL_bd {M : Nat} : ∀ (l : List Tr) (d : Nat), (∀ x ∈ l, deepT x ≤ M) → d ≤ M → deepL l d ≤ M
  | [], d, _, h => by rw [deepL_nil]; exact h
  | x :: l, d, hx, h => by
    rw [deepL_cons]
    exact deepL_bd l _ (fun y hy => hx y (List.mem_cons_of_mem _ hy)) (by have := hx x List.mem_cons_self; omega)
/-- The plain law PmodJoins. -/
theorem law08_PmodJoins_true (a b : List UInt8) : ∃ K, law08_PmodJoins K a b = some true := by
  refine Ev.get (f := fun K => law08_PmodJoins K a b) ?_
  refine Ev.congr (f := fun K => _) ?_ (fun k => by rw [law08_PmodJoins])
  refine Ev.opt (sub_min (m := 700)) ?_
  refine Ev.opt (sub_min (m := 700)) ?_
  have ha : (a.take 700).length ≤ 700 := by rw [List.length_take]; omega
  have hb : (b.take 700).length ≤ 700 := by rw [List.length_take]; omega
  generalize a.take 700 = a at *
  generalize b.take 700 = b at *
  rcases src_split (s := a) (by omega) (N := 20000) (by omega) with ⟨j, e, he, hx⟩ | ⟨la, ka, ra, xa, na, pa, sa, da, wa, hx⟩
  · refine Ev.bind hx ?_
    rcases src_split (s := b) (by omega) (N := 20000) (by omega) with ⟨_, _, _, hy⟩ | ⟨_, _, _, _, _, _, _, _, _, hy⟩
    · refine Ev.bind hy ?_
      exact Ev.nT he (Ev.ret ev_works8)
    · refine Ev.bind hy ?_
      exact Ev.nT he (Ev.ret ev_works8)
  · refine Ev.bind hx ?_
    have hka := wL_len ka
    rcases src_split (s := b) (by omega) (N := 20000 - ka.length) (by omega) with ⟨j, e, he, hy⟩ | ⟨lb, kb, rb, xb, nb, pb, sb, db, wb, hy⟩
    · refine Ev.bind hy ?_
      refine Ev.nF rfl ?_
      exact Ev.nT he (Ev.ret ev_works8)
    refine Ev.bind hy ?_
    refine Ev.nF rfl ?_
    refine Ev.nF rfl ?_
    refine Ev.opt (catS_ok (by simp; omega)) ?_
    refine Ev.opt (catS_ok (by simp; omega)) ?_
    have hkb := wL_len kb
    have x1 := ext_head (l := la) (r := lb.map (shT (a.length + 1))) (fun k hk => by
      rw [List.getElem?_map] at hk
      cases h0 : lb[0]? with
      | none => rw [h0] at hk; cases hk
      | some q =>
        rw [h0] at hk
        have e : shT (a.length + 1) q = k := Option.some.inj hk
        subst e
        exact beg_first pb q h0)
    have x2 := ext_tail (l := la) (r := lb) (f := shT (a.length + 1)) (fun k => rfl)
    have hl' : (la ++ lb.map (shT (a.length + 1))).length = la.length + lb.length := by simp
    have q1 : mDecls (la ++ lb.map (shT (a.length + 1))) 20000 true [] 0 = mDecls (la ++ lb.map (shT (a.length + 1))) (20000 - ka.length) true ka la.length := (decls_head x1 (by omega) (by omega) 20000 0 [] ka (Nat.zero_le _) pa).2
    have q2 := decls_tail x2 (by omega) (by omega) (by omega) ka (20000 - ka.length) 0 [] kb (Nat.zero_le _) pb
    rw [List.append_nil, Nat.zero_add] at q2
    rw [q2] at q1
    have hj : a ++ [10] ++ b = a ++ 10 :: b := by simp
    have hsrc := ev_src (s := a ++ 10 :: b) (n := 20000) (by simp; omega) (rk_join ra rb) (lex_join xa xb) (by omega)
    rw [q1] at hsrc
    unfold srcA at hsrc
    simp only at hsrc
    have hsz : sizeT (progT (ka ++ kb)) ≤ 8192 := by
      have := sizeT_le (progT (ka ++ kb))
      rw [w_node, wL_append] at this
      omega
    have hdp : deepT (progT (ka ++ kb)) ≤ 60 := by
      rw [deepT_node] at da db ⊢
      have := deepL_bd (M := 59) (ka ++ kb) 0 (fun x hx => by
        rcases List.mem_append.1 hx with hx | hx
        · have := deepL_mem (d := 0) hx; omega
        · have := deepL_mem (d := 0) hx; omega) (by omega)
      omega
    rw [if_pos ⟨trivial, by omega⟩, if_neg (Nat.not_lt.2 hsz), if_neg (Nat.not_lt.2 hdp)] at hsrc
    rw [hj]
    refine Ev.bind hsrc ?_
    refine Ev.step (F := fun K => law08_PmodJoins_c0 K (progT ka) (progT kb) (progT (ka ++ kb)) 0) (fun k => by rw [law08_PmodJoins_c0]) ?_
    refine Ev.nF rfl ?_
    refine Ev.nF (by rw [List.length_append, wrap_id (by omega) (by omega)]; omega) ?_
    have s1 := subL_ok (l := ka ++ kb) (a := 0) (b := ka.length) (by omega) (by simp)
    rw [List.take_left, List.drop_zero] at s1
    refine Ev.opt s1 ?_
    refine Ev.bind (ev_all8 ka (by omega)) ?_
    refine Ev.isT rfl ?_
    have s2 := subL_ok (l := ka ++ kb) (a := ka.length) (b := (ka ++ kb).length) (by simp) (by omega)
    rw [List.take_length, List.drop_left] at s2
    refine Ev.opt s2 ?_
    refine Ev.bind (ev_all8 kb (by omega)) ?_
    refine Ev.isT rfl ?_
    exact Ev.ret ev_works8
end Go.Proofs.YtnogkihchgnbcaaGreatDoor

