/- Joined texts: X3, X4. -/
import Derived.Test.YtojooakojnelbaaDoorGX
/- Two lists of tokens, one the head of the other: what the parser does of them. -/
namespace Go.Proofs.YtojooakojnelbaaDoor
open Go Go.Am Go.Sx
section
variable (l : List Token)
theorem ps_mono : ∀ n i, i ≤ (typS l n i).2.1 ∧ i ≤ (prodS l n i).2.1 ∧ i ≤ (atomS l n i).2.1 ∧ ∀ out, i ≤ (consS l n i out).2.1 := by
  intro n
  induction n with
  | zero => intro i; refine ⟨?_, ?_, ?_, fun out => ?_⟩ <;> simp [typS, prodS, atomS, consS]
  | succ n ih =>
    intro i
    refine ⟨?_, ?_, ?_, fun out => ?_⟩
    · rw [typS]
      have h := (ih i).2.1
      generalize prodS l n i = g at *
      obtain ⟨a, j, e⟩ := g
      simp only at h ⊢
      split
      · split
        · have h2 := (ih (j + 1)).1
          generalize typS l n (j + 1) = g at *
          obtain ⟨b, j2, e2⟩ := g
          simp only at h2 ⊢; omega
        · exact h
      · exact h
    · rw [prodS]
      have h := (ih i).2.2.1
      generalize atomS l n i = g at *
      obtain ⟨a, j, e⟩ := g
      simp only at h ⊢
      split
      · split
        · have h2 := (ih (j + 1)).2.1
          generalize prodS l n (j + 1) = g at *
          obtain ⟨b, j2, e2⟩ := g
          simp only at h2 ⊢; omega
        · exact h
      · exact h
    · rw [atomS]
      split
      · simp only; omega
      split
      · simp only; omega
      split
      · simp only; omega
      split
      · simp only; omega
      split
      · have h2 := (ih (i + 1)).1
        generalize typS l n (i + 1) = g at *
        obtain ⟨b, j2, e2⟩ := g
        simp only at h2 ⊢
        split
        · split <;> simp only <;> omega
        · simp only; omega
      split
      · split
        · split
          · have h2 := (ih (i + 3)).2.2.2 []
            generalize consS l n (i + 3) [] = g at *
            obtain ⟨b, j2, e2⟩ := g
            simp only at h2 ⊢
            split
            · split <;> simp only <;> omega
            · simp only; omega
          · simp only; omega
        · simp only; omega
      · simp only; omega
    · rw [consS]
      split
      · split
        · simp only; omega
        split
        · have h2 := (ih (i + 2)).1
          generalize typS l n (i + 2) = g at *
          obtain ⟨b, j2, e2⟩ := g
          simp only at h2 ⊢
          split
          · split
            · have h3 := (ih (j2 + 1)).2.2.2 (out ++ [.node 8 0 (nameS l i).1 [] [b]])
              omega
            · simp only; omega
          · simp only; omega
        · simp only; omega
      · simp only; omega
end
/-- of two results, the first over the head of the list -/
def R2 {α : Type} (L : Nat) (g g' : α × Nat × Int) : Prop := (g.2.1 < L → g' = g) ∧ (L ≤ g.2.1 → L ≤ g'.2.1) ∧ (g.2.2 = 9 → g.2.1 < L)
theorem R2.refl {α : Type} {L : Nat} {a : α} {j : Nat} {e : Int} (h : e ≠ 9) : R2 L (a, j, e) (a, j, e) := ⟨fun _ => rfl, fun h => h, fun h' => absurd h' h⟩
theorem R2.same {α : Type} {L : Nat} {a : α} {j : Nat} {e : Int} (h : j < L) : R2 L (a, j, e) (a, j, e) := ⟨fun _ => rfl, fun h => h, fun _ => h⟩
theorem R2.out {α : Type} {L : Nat} {a : α} {j : Nat} {e : Int} {g' : α × Nat × Int} (h : L ≤ j) (he : e ≠ 9) (h' : L ≤ g'.2.1) : R2 L (a, j, e) g' :=
  ⟨fun h2 => absurd h2 (by simp only; omega), fun _ => h', fun h2 => absurd h2 he⟩
section
variable (l m : List Token)
theorem tok_head {i : Nat} (h : i < l.length) : tokAt (l ++ m) (i : Int) = tokAt l (i : Int) := by
  unfold tokAt
  rw [if_pos (by simp; omega), if_pos (by omega), getI_lt (by simp; omega), getI_lt h, List.getElem_append_left h]
theorem tok_out {i : Nat} (h : l.length ≤ i) : tokAt l (i : Int) = none := tok_none (by omega)
theorem key_head {i : Nat} (h : i < l.length) (t : List UInt8) : keyS (l ++ m) (i : Int) t = keyS l (i : Int) t := by unfold keyS; rw [tok_head l m h]
theorem name_head {i : Nat} (h : i < l.length) : nameS (l ++ m) (i : Int) = nameS l (i : Int) := by unfold nameS; rw [tok_head l m h]
theorem long_head {i : Nat} (h : i < l.length) : longS (l ++ m) (i : Int) = longS l (i : Int) := by unfold longS; rw [tok_head l m h]
theorem key_out {i : Nat} (h : l.length ≤ i) (t : List UInt8) : keyS l (i : Int) t = false := by unfold keyS; rw [tok_out l h]
theorem name_out {i : Nat} (h : l.length ≤ i) : nameS l (i : Int) = ([], false) := by unfold nameS; rw [tok_out l h]
theorem long_out {i : Nat} (h : l.length ≤ i) : longS l (i : Int) = ([], false) := by unfold longS; rw [tok_out l h]
theorem two_all : ∀ n i, i ≤ l.length → R2 l.length (typS l n i) (typS (l ++ m) n i) ∧ R2 l.length (prodS l n i) (prodS (l ++ m) n i) ∧ R2 l.length (atomS l n i) (atomS (l ++ m) n i) ∧
    ∀ out, R2 l.length (consS l n i out) (consS (l ++ m) n i out) := by
  intro n
  induction n with
  | zero =>
    intro i hi
    refine ⟨?_, ?_, ?_, fun out => ?_⟩
    · rw [typS, typS]; exact R2.refl (by decide)
    · rw [prodS, prodS]; exact R2.refl (by decide)
    · rw [atomS, atomS]; exact R2.refl (by decide)
    · rw [consS, consS]; exact R2.refl (by decide)
  | succ n ih =>
    intro i hi
    refine ⟨?_, ?_, ?_, fun out => ?_⟩
    · have h := (ih i hi).2.1
      have hm : (prodS (l ++ m) n i).2.1 ≤ (typS (l ++ m) (n + 1) i).2.1 := by
        rw [typS]
        generalize prodS (l ++ m) n i = g at *
        obtain ⟨a, j, e⟩ := g
        simp only
        split
        · split
          · have h2 := (ps_mono (l ++ m) n (j + 1)).1
            generalize typS (l ++ m) n (j + 1) = g at *
            obtain ⟨b, j2, e2⟩ := g
            simp only at h2 ⊢; omega
          · exact Nat.le_refl _
        · exact Nat.le_refl _
      by_cases hj : (prodS l n i).2.1 < l.length
      · rw [typS, typS, h.1 hj]
        have h9 := h.2.2
        generalize prodS l n i = g at *
        obtain ⟨a, j, e⟩ := g
        simp only at hj h9 ⊢
        by_cases he : e = 0
        · rw [if_pos he, if_pos he, key_head l m hj]
          by_cases hk : keyS l (j : Int) [45, 62] = true
          · rw [if_pos hk, if_pos hk]
            have h2 := (ih (j + 1) (by omega)).1
            generalize typS l n (j + 1) = g at *
            generalize typS (l ++ m) n (j + 1) = g' at *
            obtain ⟨b, j2, e2⟩ := g
            obtain ⟨b', j2', e2'⟩ := g'
            refine ⟨fun h3 => ?_, h2.2.1, h2.2.2⟩
            have := h2.1 h3
            simp only [Prod.mk.injEq] at this ⊢
            obtain ⟨rfl, rfl, rfl⟩ := this
            exact ⟨rfl, rfl, rfl⟩
          · rw [if_neg hk, if_neg hk]; exact R2.same hj
        · rw [if_neg he, if_neg he]; exact R2.same hj
      · have hl' := h.2.1 (by omega)
        have h9 := h.2.2
        rw [typS]
        generalize prodS l n i = g at *
        obtain ⟨a, j, e⟩ := g
        simp only at hj h9 ⊢
        by_cases he : e = 0
        · rw [if_pos he, key_out l (by omega), if_neg (by simp)]
          exact R2.out (by omega) (by decide) (by omega)
        · rw [if_neg he]
          exact R2.out (by omega) (fun h => hj (h9 h)) (by omega)
    · have h := (ih i hi).2.2.1
      have hm : (atomS (l ++ m) n i).2.1 ≤ (prodS (l ++ m) (n + 1) i).2.1 := by
        rw [prodS]
        generalize atomS (l ++ m) n i = g at *
        obtain ⟨a, j, e⟩ := g
        simp only
        split
        · split
          · have h2 := (ps_mono (l ++ m) n (j + 1)).2.1
            generalize prodS (l ++ m) n (j + 1) = g at *
            obtain ⟨b, j2, e2⟩ := g
            simp only at h2 ⊢; omega
          · exact Nat.le_refl _
        · exact Nat.le_refl _
      by_cases hj : (atomS l n i).2.1 < l.length
      · rw [prodS, prodS, h.1 hj]
        have h9 := h.2.2
        generalize atomS l n i = g at *
        obtain ⟨a, j, e⟩ := g
        simp only at hj h9 ⊢
        by_cases he : e = 0
        · rw [if_pos he, if_pos he, key_head l m hj]
          by_cases hk : keyS l (j : Int) [42] = true
          · rw [if_pos hk, if_pos hk]
            have h2 := (ih (j + 1) (by omega)).2.1
            generalize prodS l n (j + 1) = g at *
            generalize prodS (l ++ m) n (j + 1) = g' at *
            obtain ⟨b, j2, e2⟩ := g
            obtain ⟨b', j2', e2'⟩ := g'
            refine ⟨fun h3 => ?_, h2.2.1, h2.2.2⟩
            have := h2.1 h3
            simp only [Prod.mk.injEq] at this ⊢
            obtain ⟨rfl, rfl, rfl⟩ := this
            exact ⟨rfl, rfl, rfl⟩
          · rw [if_neg hk, if_neg hk]; exact R2.same hj
        · rw [if_neg he, if_neg he]; exact R2.same hj
      · have hl' := h.2.1 (by omega)
        have h9 := h.2.2
        rw [prodS]
        generalize atomS l n i = g at *
        obtain ⟨a, j, e⟩ := g
        simp only at hj h9 ⊢
        by_cases he : e = 0
        · rw [if_pos he, key_out l (by omega), if_neg (by simp)]
          exact R2.out (by omega) (by decide) (by omega)
        · rw [if_neg he]
          exact R2.out (by omega) (fun h => hj (h9 h)) (by omega)
    · have hmm := (ps_mono (l ++ m) (n + 1) i).2.2.1
      by_cases hil : i < l.length
      · rw [atomS, atomS, long_head l m hil]
        simp only [key_head l m hil]
        by_cases c1 : (longS l (i : Int)).2 = true
        · rw [if_pos c1, if_pos c1]; exact R2.refl (by decide)
        rw [if_neg c1, if_neg c1]
        by_cases c2 : keyS l (i : Int) [105, 110, 116] = true
        · rw [if_pos c2, if_pos c2]; exact R2.refl (by decide)
        rw [if_neg c2, if_neg c2]
        by_cases c3 : keyS l (i : Int) [98, 111, 111, 108] = true
        · rw [if_pos c3, if_pos c3]; exact R2.refl (by decide)
        rw [if_neg c3, if_neg c3]
        by_cases c4 : keyS l (i : Int) [117, 110, 105, 116] = true
        · rw [if_pos c4, if_pos c4]; exact R2.refl (by decide)
        rw [if_neg c4, if_neg c4]
        by_cases c5 : keyS l (i : Int) [40] = true
        · rw [if_pos c5, if_pos c5]
          have h := (ih (i + 1) (by omega)).1
          by_cases hj : (typS l n (i + 1)).2.1 < l.length
          · rw [h.1 hj]
            generalize typS l n (i + 1) = g at *
            obtain ⟨t, j, e⟩ := g
            simp only at hj ⊢
            rw [key_head l m hj]
            by_cases he : e = 0
            · rw [if_pos he]
              by_cases hk : keyS l (j : Int) [41] = true
              · rw [if_pos hk]; exact R2.refl (by decide)
              · rw [if_neg hk]; exact R2.refl (by decide)
            · rw [if_neg he]; exact R2.same hj
          · have hl' := h.2.1 (by omega)
            have h9 := h.2.2
            generalize typS l n (i + 1) = g at *
            generalize typS (l ++ m) n (i + 1) = g' at *
            obtain ⟨t, j, e⟩ := g
            obtain ⟨t', j', e'⟩ := g'
            simp only at hj hl' h9 ⊢
            have h5 : e ≠ 9 := fun h => hj (h9 h)
            rw [key_out l (by omega)]
            have h6 : R2 l.length (if e = 0 then (if false = true then (t, j + 1, 0) else (Tr.nil, j, 6)) else (Tr.nil, j, e)) (if e' = 0 then (if keyS (l ++ m) (j' : Int) [41] = true then (t', j' + 1, 0) else (.nil, j', 6)) else (.nil, j', e')) := by
              have h7 : l.length ≤ (if e' = 0 then (if keyS (l ++ m) (j' : Int) [41] = true then (t', j' + 1, (0 : Int)) else (.nil, j', 6)) else (.nil, j', e')).2.1 := by
                split
                · split <;> simp only <;> omega
                · simp only; omega
              by_cases he : e = 0
              · rw [if_pos he, if_neg (by simp)]; exact R2.out (by omega) (by decide) h7
              · rw [if_neg he]; exact R2.out (by omega) h5 h7
            exact h6
        rw [if_neg c5, if_neg c5]
        by_cases c6 : keyS l (i : Int) [109, 117] = true
        · rw [if_pos c6, if_pos c6]
          by_cases hi1 : i + 1 < l.length
          · rw [name_head l m hi1]
            by_cases c7 : (nameS l ((i + 1 : Nat) : Int)).2 = true
            · rw [if_pos c7, if_pos c7]
              by_cases hi2 : i + 2 < l.length
              · rw [key_head l m hi2]
                by_cases c8 : keyS l ((i + 2 : Nat) : Int) [123] = true
                · rw [if_pos c8, if_pos c8]
                  have h := (ih (i + 3) (by omega)).2.2.2 []
                  by_cases hj : (consS l n (i + 3) []).2.1 < l.length
                  · rw [h.1 hj]
                    generalize consS l n (i + 3) [] = g at *
                    obtain ⟨t, j, e⟩ := g
                    simp only at hj ⊢
                    rw [key_head l m hj]
                    by_cases he : e = 0
                    · rw [if_pos he]
                      by_cases hk : keyS l (j : Int) [125] = true
                      · rw [if_pos hk]; exact R2.refl (by decide)
                      · rw [if_neg hk]; exact R2.refl (by decide)
                    · rw [if_neg he]; exact R2.same hj
                  · have hl' := h.2.1 (by omega)
                    have h9 := h.2.2
                    generalize consS l n (i + 3) [] = g at *
                    generalize consS (l ++ m) n (i + 3) [] = g' at *
                    obtain ⟨t, j, e⟩ := g
                    obtain ⟨t', j', e'⟩ := g'
                    simp only at hj hl' h9 ⊢
                    have h5 : e ≠ 9 := fun h => hj (h9 h)
                    rw [key_out l (by omega)]
                    generalize (nameS l ((i + 1 : Nat) : Int)).1 = nm
                    have h6 : R2 l.length (if e = 0 then (if false = true then (Tr.node 7 0 nm [] t, j + 1, 0) else (Tr.nil, j, 6)) else (Tr.nil, j, e)) (if e' = 0 then (if keyS (l ++ m) (j' : Int) [125] = true then (.node 7 0 nm [] t', j' + 1, 0) else (.nil, j', 6)) else (.nil, j', e')) := by
                      have h7 : l.length ≤ (if e' = 0 then (if keyS (l ++ m) (j' : Int) [125] = true then (Tr.node 7 0 nm [] t', j' + 1, (0 : Int)) else (.nil, j', 6)) else (.nil, j', e')).2.1 := by
                        split
                        · split <;> simp only <;> omega
                        · simp only; omega
                      by_cases he : e = 0
                      · rw [if_pos he, if_neg (by simp)]; exact R2.out (by omega) (by decide) h7
                      · rw [if_neg he]; exact R2.out (by omega) h5 h7
                    exact h6
                · rw [if_neg c8, if_neg c8]; exact R2.refl (by decide)
              · rw [key_out l (by omega), if_neg (by simp)]
                refine R2.out (by omega) (by decide) ?_
                split
                · have h2 := (ps_mono (l ++ m) n (i + 3)).2.2.2 []
                  generalize consS (l ++ m) n (i + 3) [] = g at *
                  obtain ⟨b, j2, e2⟩ := g
                  simp only at h2 ⊢
                  split
                  · split <;> simp only <;> omega
                  · simp only; omega
                · simp only; omega
            · rw [if_neg c7, if_neg c7]; exact R2.refl (by decide)
          · rw [name_out l (by omega), if_neg (by simp)]
            refine R2.out (by omega) (by decide) ?_
            split
            · split
              · have h2 := (ps_mono (l ++ m) n (i + 3)).2.2.2 []
                generalize consS (l ++ m) n (i + 3) [] = g at *
                obtain ⟨b, j2, e2⟩ := g
                simp only at h2 ⊢
                split
                · split <;> simp only <;> omega
                · simp only; omega
              · simp only; omega
            · simp only; omega
        · rw [if_neg c6, if_neg c6]; exact R2.refl (by decide)
      · have e1 : atomS l (n + 1) i = (.nil, i, 6) := by
          rw [atomS, long_out l (by omega)]
          simp only [key_out l (show l.length ≤ i by omega)]
          rfl
        rw [e1]
        exact R2.out (by omega) (by decide) (by omega)
    · have hmm := (ps_mono (l ++ m) (n + 1) i).2.2.2 out
      by_cases hil : i < l.length
      · rw [consS, consS, name_head l m hil]
        by_cases c1 : (nameS l (i : Int)).2 = true
        · rw [if_pos c1, if_pos c1]
          by_cases c2 : (nameS l (i : Int)).1 ∈ out.map nameOf
          · rw [if_pos c2, if_pos c2]; exact R2.same hil
          rw [if_neg c2, if_neg c2]
          by_cases hi1 : i + 1 < l.length
          · rw [key_head l m hi1]
            by_cases c3 : keyS l ((i + 1 : Nat) : Int) [111, 102] = true
            · rw [if_pos c3, if_pos c3]
              have h := (ih (i + 2) (by omega)).1
              generalize (nameS l (i : Int)).1 = nm
              by_cases hj : (typS l n (i + 2)).2.1 < l.length
              · rw [h.1 hj]
                generalize typS l n (i + 2) = g at *
                obtain ⟨t, j, e⟩ := g
                simp only at hj ⊢
                rw [key_head l m hj]
                by_cases he : e = 0
                · rw [if_pos he, if_pos he]
                  by_cases hk : keyS l (j : Int) [124] = true
                  · rw [if_pos hk, if_pos hk]
                    exact (ih (j + 1) (by omega)).2.2.2 _
                  · rw [if_neg hk, if_neg hk]; exact R2.refl (by decide)
                · rw [if_neg he, if_neg he]; exact R2.same hj
              · have hl' := h.2.1 (by omega)
                have h9 := h.2.2
                generalize typS l n (i + 2) = g at *
                generalize typS (l ++ m) n (i + 2) = g' at *
                obtain ⟨t, j, e⟩ := g
                obtain ⟨t', j', e'⟩ := g'
                simp only at hj hl' h9 ⊢
                have h5 : e ≠ 9 := fun h => hj (h9 h)
                have h7 : l.length ≤ (if e' = 0 then (if keyS (l ++ m) (j' : Int) [124] = true then consS (l ++ m) n (j' + 1) (out ++ [.node 8 0 nm [] [t']]) else (out ++ [.node 8 0 nm [] [t']], j', 0)) else ([], j', e')).2.1 := by
                  split
                  · split
                    · have := (ps_mono (l ++ m) n (j' + 1)).2.2.2 (out ++ [.node 8 0 nm [] [t']])
                      omega
                    · simp only; omega
                  · simp only; omega
                rw [key_out l (by omega)]
                by_cases he : e = 0
                · rw [if_pos he, if_neg (by simp)]; exact R2.out (by omega) (by decide) h7
                · rw [if_neg he]; exact R2.out (by omega) h5 h7
            · rw [if_neg c3, if_neg c3]; exact R2.refl (by decide)
          · rw [key_out l (by omega), if_neg (by simp)]
            refine R2.out (by omega) (by decide) ?_
            split
            · have h2 := (ps_mono (l ++ m) n (i + 2)).1
              generalize typS (l ++ m) n (i + 2) = g at *
              obtain ⟨b, j2, e2⟩ := g
              simp only at h2 ⊢
              split
              · split
                · have h3 := (ps_mono (l ++ m) n (j2 + 1)).2.2.2 (out ++ [.node 8 0 (nameS l (i : Int)).1 [] [b]])
                  omega
                · simp only; omega
              · simp only; omega
            · simp only; omega
        · rw [if_neg c1, if_neg c1]; exact R2.refl (by decide)
      · have e1 : consS l (n + 1) i out = ([], i, 6) := by
          rw [consS, name_out l (by omega)]
          rfl
        rw [e1]
        exact R2.out (by omega) (by decide) (by omega)
end
end Go.Proofs.YtojooakojnelbaaDoor

/- The plain law PtypeStops. -/
namespace Go.Proofs.YtojooakojnelbaaDoor
open Go Go.Am Go.Sx
theorem works6 (k : Nat) : law06_works (k + 60) = some true := by kernel_rfl
theorem ev_works6 : Ev (fun K => law06_works K) true := ⟨60, fun K hK => by
  obtain ⟨k, rfl⟩ : ∃ k, K = k + 60 := ⟨K - 60, by omega⟩
  exact works6 k⟩
def cutT (c : Token) : Token := (c.1, c.2.1.take 140, c.2.2.1, c.2.2.2)
def fewT (p : List Token) : List Token := (p.take 80).map cutT
theorem fewT_len (p : List Token) : (fewT p).length ≤ 80 := by simp [fewT]; omega
theorem fewT_text (p : List Token) : ∀ k ∈ fewT p, k.2.1.length ≤ 1099511627776 := by
  intro k h
  simp only [fewT, List.mem_map] at h
  obtain ⟨x, _, rfl⟩ := h
  simp [cutT]; omega
theorem ev_Few_loop {p : List Token} : ∀ (m i : Nat) (acc : List Token), i + m = min p.length 80 → acc.length = i → Ev (fun K => law06_Few_l0 K p acc (i : Int)) (acc ++ ((p.take 80).drop i).map cutT) := by
  intro m
  induction m with
  | zero =>
    intro i acc hi ha
    refine Ev.step (fun k => by rw [law06_Few_l0]) ?_
    have hd : (p.take 80).drop i = [] := List.drop_of_length_le (by simp; omega)
    rw [hd]
    refine Ev.d (fun h => ?_) (fun _ => Ev.pure' (by simp))
    exact Ev.dF (by omega) (Ev.pure' (by simp))
  | succ m ihm =>
    intro i acc hi ha
    have hlt : i < p.length := by omega
    have hlt' : i < (p.take 80).length := by simp; omega
    refine Ev.step (fun k => by rw [law06_Few_l0]) ?_
    refine Ev.dT (by omega) (Ev.dT (by omega) (Ev.opt (getI_lt hlt) ?_))
    refine Ev.opt (sub_min (m := 140)) ?_
    refine Ev.opt (appL_ok (by simp; omega)) ?_
    rw [wrap_nat (by omega), drop_get hlt', List.map_cons]
    have := ihm (i + 1) (acc ++ [cutT p[i]]) (by omega) (by simp [ha])
    rw [List.append_assoc] at this
    simpa [cutT] using this
theorem ev_Few (p : List Token) : Ev (fun K => law06_Few K p) (fewT p) := by
  have := ev_Few_loop (p := p) (min p.length 80) 0 [] (by omega) rfl
  simpa [law06_Few, fewT] using this

theorem ev_eq_loop {p : List Tr} (hl : p.length ≤ 1099511627776) (ih : ∀ x ∈ p, Ev (fun K => arena_Same K x x) true) : ∀ (m i : Nat), p.length = i + m → Ev (fun K => slices_EqualFunc_l0 K p p (i : Int)) true := by
  intro m
  induction m with
  | zero =>
    intro i hi
    exact Ev.step (fun k => by rw [slices_EqualFunc_l0]) (Ev.dF (by omega) Ev.pure)
  | succ m ihm =>
    intro i hi
    have hlt : i < p.length := by omega
    refine Ev.step (fun k => by rw [slices_EqualFunc_l0]) ?_
    refine Ev.dT (by omega) ?_
    refine Ev.opt (getI_lt hlt) ?_
    refine Ev.opt (getI_lt hlt) ?_
    refine Ev.bind (ih _ (List.getElem_mem hlt)) ?_
    refine Ev.isF rfl ?_
    rw [wrap_nat (by omega)]
    exact ihm (i + 1) (by omega)
theorem ev_asame : ∀ t : Tr, t.w ≤ 1048576 → Ev (fun K => arena_Same K t t) true := Tr.ind
  (fun _ => Ev.step (fun k => by rw [arena_Same]) Ev.pure)
  fun k n nm mk ks ih h => by
    rw [w_node] at h
    have hl := wL_len ks
    refine Ev.step (fun k => by rw [arena_Same]) ?_
    refine Ev.dT rfl ?_
    refine Ev.dT rfl ?_
    refine Ev.dT rfl ?_
    refine Ev.dT rfl ?_
    refine Ev.bind (a := true) ?_ Ev.pure
    refine Ev.step (fun k => by rw [slices_EqualFunc]) ?_
    refine Ev.nF rfl ?_
    exact ev_eq_loop (by omega) (fun x hx => ih x hx (by have := wL_mem hx; omega)) ks.length 0 (by omega)
section
variable {l : List Token} (hl : l.length ≤ 1000)
include hl
theorem begin_ok {i : Int} (h : 0 ≤ i ∧ i ≤ (l.length : Int)) : Ev (fun K => ptype_begin K l i) (l, i, 0) := by
  have := hl
  refine Ev.congr (f := fun K => _) ?_ (fun k => by rw [ptype_begin])
  exact Ev.dF (by omega) (Ev.dF (by omega) Ev.pure)

def ansS (g : Tr × Nat × Int) : Tr × Int × Int := if g.2.2 = 0 then (g.1, ((g.2.1 : Nat) : Int), 0) else (.nil, ((g.2.1 : Nat) : Int), g.2.2)
theorem type0 {n : Nat} (hn : 3 * l.length + 3 ≤ n) : Ev (fun K => ptype_Type K l 0) (ansS (typS l n 0)) ∧ (typS l n 0).2.1 ≤ l.length ∧ ((typS l n 0).2.2 = 0 → (typS l n 0).1.w ≤ l.length) := by
  have h := (ps_all hl n 0 (by omega)).1 (by omega)
  generalize typS l n 0 = g at *
  obtain ⟨t, j, e⟩ := g
  obtain ⟨t', h1, h5, h4, h3⟩ := h
  simp only at h1 h5 h4 h3 ⊢
  refine ⟨?_, h3, fun he => by have := h5 he; omega⟩
  refine Ev.congr (f := fun K => _) ?_ (fun k => by rw [ptype_Type])
  refine Ev.bind (begin_ok hl ⟨by omega, by omega⟩) ?_
  refine Ev.bind h1 ?_
  unfold ansS
  by_cases he : e = 0
  · rw [if_pos he, ← (h5 he).1]
    exact Ev.nF he Ev.pure
  · rw [if_neg he]
    exact Ev.nT he Ev.pure
end
theorem law06_PtypeStops_true (a b : List Token) : ∃ K, law06_PtypeStops K a b = some true := by
  refine Ev.get (f := fun K => law06_PtypeStops K a b) ?_
  refine Ev.congr (f := fun K => _) ?_ (fun k => by rw [law06_PtypeStops])
  have ha := fewT_len a
  have hb := fewT_len b
  refine Ev.bind (ev_Few a) ?_
  refine Ev.bind (ev_Few b) ?_
  generalize fewT a = p at *
  generalize fewT b = q at *
  have t1 := type0 (l := p) (by omega) (n := 3 * (p ++ q).length + 3) (by simp; omega)
  have t2 := type0 (l := p ++ q) (by simp; omega) (n := 3 * (p ++ q).length + 3) (by omega)
  have r := (two_all p q (3 * (p ++ q).length + 3) 0 (by omega)).1
  have h4 : appL 40 ([] : List Token) p = some p := appL_ok (l := ([] : List Token)) (m := p) (by have : ([] : List Token).length = 0 := rfl; omega)
  have h5 : appL 40 p q = some (p ++ q) := appL_ok (by omega)
  generalize typS p (3 * (p ++ q).length + 3) 0 = g at *
  generalize typS (p ++ q) (3 * (p ++ q).length + 3) 0 = g' at *
  obtain ⟨t, j, e⟩ := g
  obtain ⟨t', j', e'⟩ := g'
  obtain ⟨e1, b1, w1⟩ := t1
  obtain ⟨e2, b2, w2⟩ := t2
  obtain ⟨r1, r2, r3⟩ := r
  simp only at b1 w1 b2 w2 r1 r2 r3
  refine Ev.bind e1 ?_
  have cont : ∀ {x y : Tr} {f f' : Int}, ansS (t, j, e) = (x, ((j : Nat) : Int), f) → ansS (t', j', e') = (y, ((j' : Nat) : Int), f') →
    Ev (fun K => (iteS (!decide (f = 0)) (iteS (decide (((j : Nat) : Int) < ((p.length : Nat) : Int))) (match y with | .nil => (iteS (decide (((j' : Nat) : Int) = ((j : Nat) : Int))) (iteS (decide (f' = f)) ((law06_works K).bind fun v16 => (some v16)) (some false)) (some false)) | .node n11 n12 n13 n14 n15 => (some false)) (iteS (decide (f = 9)) (match y with | .nil => (iteS (decide (((j' : Nat) : Int) = ((j : Nat) : Int))) (iteS (decide (f' = f)) ((law06_works K).bind fun v22 => (some v22)) (some false)) (some false)) | .node n17 n18 n19 n20 n21 => (some false)) (law06_PtypeStops_c0 K p x ((j : Nat) : Int) f y ((j' : Nat) : Int) f'))) (iteS (decide (f = 9)) (match y with | .nil => (iteS (decide (((j' : Nat) : Int) = ((j : Nat) : Int))) (iteS (decide (f' = f)) ((law06_works K).bind fun v33 => (some v33)) (some false)) (some false)) | .node n28 n29 n30 n31 n32 => (some false)) (law06_PtypeStops_c0 K p x ((j : Nat) : Int) f y ((j' : Nat) : Int) f')))) true := by
    intro x y f f' hx hy
    by_cases he : e = 0
    · have hx' : x = t ∧ f = 0 := by unfold ansS at hx; rw [if_pos he] at hx; simp only [Prod.mk.injEq] at hx; exact ⟨hx.1.symm, hx.2.2.symm⟩
      obtain ⟨rfl, rfl⟩ := hx'
      refine Ev.nF rfl ?_
      refine Ev.dF (by decide) ?_
      refine Ev.step (fun k => by rw [law06_PtypeStops_c0]) ?_
      refine Ev.dT rfl ?_
      by_cases hj : j < p.length
      · have := r1 hj
        simp only [Prod.mk.injEq] at this
        obtain ⟨rfl, rfl, rfl⟩ := this
        rw [hx] at hy
        simp only [Prod.mk.injEq] at hy
        obtain ⟨rfl, _, rfl⟩ := hy
        refine Ev.dT (by omega) ?_
        refine Ev.bind (ev_asame _ (by have := w1 he; omega)) ?_
        refine Ev.isT rfl ?_
        refine Ev.dT rfl ?_
        refine Ev.dT rfl ?_
        exact Ev.bind ev_works6 Ev.pure
      · have := r2 (by omega)
        refine Ev.dF (by omega) ?_
        refine Ev.dT (by omega) ?_
        exact Ev.bind ev_works6 Ev.pure
    · have hx' : x = .nil ∧ f = e := by unfold ansS at hx; rw [if_neg he] at hx; simp only [Prod.mk.injEq] at hx; exact ⟨hx.1.symm, hx.2.2.symm⟩
      obtain ⟨rfl, rfl⟩ := hx'
      refine Ev.nT he ?_
      by_cases hj : j < p.length
      · have := r1 hj
        simp only [Prod.mk.injEq] at this
        obtain ⟨rfl, rfl, rfl⟩ := this
        rw [hx] at hy
        simp only [Prod.mk.injEq] at hy
        obtain ⟨rfl, _, rfl⟩ := hy
        refine Ev.dT (by omega) ?_
        refine Ev.dT rfl ?_
        refine Ev.dT rfl ?_
        exact Ev.bind ev_works6 Ev.pure
      · have := r2 (by omega)
        refine Ev.dF (by omega) ?_
        refine Ev.dF (fun h => hj (r3 h)) ?_
        refine Ev.step (fun k => by rw [law06_PtypeStops_c0]) ?_
        refine Ev.dF he ?_
        refine Ev.dT (by omega) ?_
        exact Ev.bind ev_works6 Ev.pure
  have sh : ∀ g : Tr × Nat × Int, ∃ x f, ansS g = (x, ((g.2.1 : Nat) : Int), f) := fun g => by
    unfold ansS; split <;> exact ⟨_, _, rfl⟩
  obtain ⟨x, f, hx⟩ := sh (t, j, e)
  obtain ⟨y, f', hy⟩ := sh (t', j', e')
  simp only at hx hy
  rw [hx]
  refine Ev.dF (by omega) ?_
  refine Ev.dF (by omega) ?_
  refine Ev.opt h4 ?_
  refine Ev.opt h5 ?_
  refine Ev.bind e2 ?_
  rw [hy]
  exact cont hx hy
end Go.Proofs.YtojooakojnelbaaDoor

