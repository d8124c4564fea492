/- Joined texts: X9c, Y6, Y7. -/
import Derived.Test.YtpplkbcfidpbcaaGreatDoorGs
import Derived.Test.YtpplkbcfidpbcaaGreatDoorGv
import Derived.Test.YtpplkbcfidpbcaaGreatDoorGy
import Derived.Test.YtpplkbcfidpbcaaGreatDoorGq
/- What is parsed has a type's form. -/
namespace Go.Proofs.YtpplkbcfidpbcaaGreatDoor
open Go Go.Am Go.Sx
theorem consGo_snoc (f : Tr → Bool) (k : Tr) : ∀ (l : List Tr) (s : List (List UInt8)), consGo f s (l ++ [k]) = (consGo f s l && (f k && !decide (nameOf k ∈ s ++ l.map nameOf)))
  | [], s => by simp [consGo]
  | x :: l, s => by
    rw [List.cons_append]
    unfold consGo
    rw [consGo_snoc f k l]
    simp [Bool.and_assoc]
theorem name_ck {l : List Token} {i : Int} (h : (nameS l i).2 = true) : ckS (nameS l i).1 = true := by
  unfold nameS at h ⊢
  generalize tokAt l i = o at h ⊢
  cases o with
  | none => cases h
  | some k =>
    simp only at h ⊢
    split at h
    · rename_i hc
      rw [if_pos hc]; exact hc.2
    · cases h
theorem long_lg {l : List Token} {i : Int} (h : (longS l i).2 = true) : lgS (longS l i).1 = true := by
  unfold longS at h ⊢
  generalize tokAt l i = o at h ⊢
  cases o with
  | none => cases h
  | some k =>
    simp only at h ⊢
    split at h
    · rename_i hc
      rw [if_pos hc]; exact hc.2
    · cases h
theorem good0 {k : Int} {nm : List UInt8} {ks : List Tr} (h1 : nm.length ≤ 1000) (h2 : ks.length ≤ 1000000) (h3 : ∀ x ∈ ks, Good x) : Good (.node k 0 nm [] ks) := .mk (by omega) (by simp) (by omega) h3
theorem isT_two {k : Int} (hk : k = 5 ∨ k = 6) {a b : Tr} (ha : isT 1 a = true) (hb : isT 1 b = true) : isT 1 (.node k 0 [] [] [a, b]) = true := by
  rcases hk with rfl | rfl
  · rw [isT_row (r := (1, 5, [], [], 0, 0, [116, 116])) rfl]
    simp [bodyS, wordS_e, kidsS_2 (a := 116) (b := 116) (c := 1) (d := 1) (by decide) (by decide) (by decide) (by decide) (by decide) (by decide) rfl rfl, k2S, ha, hb]
  · rw [isT_row (r := (1, 6, [], [], 0, 0, [116, 116])) rfl]
    simp [bodyS, wordS_e, kidsS_2 (a := 116) (b := 116) (c := 1) (d := 1) (by decide) (by decide) (by decide) (by decide) (by decide) (by decide) rfl rfl, k2S, ha, hb]
theorem isT_mu {nm : List UInt8} {ks : List Tr} (hn : ckS nm = true) (hc : consGo (isT 8) [] ks = true) (h0 : ks ≠ []) : isT 1 (.node 7 0 nm [] ks) = true := by
  rw [isT_row (r := (1, 7, [110], [], 0, 0, [67])) rfl]
  have e67 : kidsS isT [67] ks = (consGo (isT 8) [] ks && decide (0 < ks.length)) := rfl
  have hp : 0 < ks.length := List.length_pos_iff.2 h0
  simp [bodyS, wordS_e, wordS_n, e67, hn, hc, hp]
theorem isT_c {nm : List UInt8} {t : Tr} (hn : ckS nm = true) (ht : isT 1 t = true) : isT 8 (.node 8 0 nm [] [t]) = true := by
  rw [isT_con]
  simp [bareS, hn, ht, k1S]
section
variable (l : List Token)
theorem pf_all : ∀ n, n ≤ 100000 → ∀ i, (∀ t j, typS l n i = (t, j, 0) → isT 1 t = true ∧ Good t) ∧ (∀ t j, prodS l n i = (t, j, 0) → isT 1 t = true ∧ Good t) ∧ (∀ t j, atomS l n i = (t, j, 0) → isT 1 t = true ∧ Good t) ∧
    (∀ out c j, consS l n i out = (c, j, 0) → consGo (isT 8) [] out = true → (∀ x ∈ out, Good x) → consGo (isT 8) [] c = true ∧ c ≠ [] ∧ (∀ x ∈ c, Good x) ∧ c.length ≤ out.length + n) := by
  intro n
  induction n with
  | zero =>
    intro _ i
    refine ⟨fun t j h => ?_, fun t j h => ?_, fun t j h => ?_, fun out c j h => ?_⟩
    · rw [typS] at h; simp at h
    · rw [prodS] at h; simp at h
    · rw [atomS] at h; simp at h
    · rw [consS] at h; simp at h
  | succ n ih =>
    intro hn i
    have ih := ih (by omega)
    refine ⟨fun t j h => ?_, fun t j h => ?_, fun t j h => ?_, fun out c j h hco hgo => ?_⟩
    · rw [typS] at h
      have h1 := (ih i).2.1
      generalize prodS l n i = g at *
      obtain ⟨a, j1, e1⟩ := g
      simp only at h
      by_cases he : e1 = 0
      · subst he
        rw [if_pos rfl] at h
        obtain ⟨a1, a2⟩ := h1 a j1 rfl
        by_cases hk : keyS l (j1 : Int) [45, 62] = true
        · rw [if_pos hk] at h
          have h2 := (ih (j1 + 1)).1
          generalize typS l n (j1 + 1) = g at *
          obtain ⟨b, j2, e2⟩ := g
          simp only [Prod.mk.injEq] at h
          obtain ⟨h3, h4, h5⟩ := h
          subst h5
          obtain ⟨b1, b2⟩ := h2 b j2 rfl
          rw [if_pos rfl] at h3
          subst h3
          exact ⟨isT_two (.inl rfl) a1 b1, good0 (by simp) (by simp) (by simp [a2, b2])⟩
        · rw [if_neg hk] at h
          simp only [Prod.mk.injEq] at h
          obtain ⟨rfl, _, _⟩ := h
          exact ⟨a1, a2⟩
      · rw [if_neg he] at h
        simp only [Prod.mk.injEq] at h
        exact absurd h.2.2 he
    · rw [prodS] at h
      have h1 := (ih i).2.2.1
      generalize atomS l n i = g at *
      obtain ⟨a, j1, e1⟩ := g
      simp only at h
      by_cases he : e1 = 0
      · subst he
        rw [if_pos rfl] at h
        obtain ⟨a1, a2⟩ := h1 a j1 rfl
        by_cases hk : keyS l (j1 : Int) [42] = true
        · rw [if_pos hk] at h
          have h2 := (ih (j1 + 1)).2.1
          generalize prodS l n (j1 + 1) = g at *
          obtain ⟨b, j2, e2⟩ := g
          simp only [Prod.mk.injEq] at h
          obtain ⟨h3, h4, h5⟩ := h
          subst h5
          obtain ⟨b1, b2⟩ := h2 b j2 rfl
          rw [if_pos rfl] at h3
          subst h3
          exact ⟨isT_two (.inr rfl) a1 b1, good0 (by simp) (by simp) (by simp [a2, b2])⟩
        · rw [if_neg hk] at h
          simp only [Prod.mk.injEq] at h
          obtain ⟨rfl, _, _⟩ := h
          exact ⟨a1, a2⟩
      · rw [if_neg he] at h
        simp only [Prod.mk.injEq] at h
        exact absurd h.2.2 he
    · rw [atomS] at h
      by_cases c1 : (longS l (i : Int)).2 = true
      · rw [if_pos c1] at h
        simp only [Prod.mk.injEq] at h
        obtain ⟨rfl, _, _⟩ := h
        have hl := long_lg c1
        have hll := lg_len hl
        refine ⟨?_, good0 (by omega) (by simp) (by simp)⟩
        rw [isT_row (r := (1, 4, [108], [], 0, 0, [])) rfl]
        simp [bodyS, wordS_e, wordS_l, kidsS, hl]
      rw [if_neg c1] at h
      by_cases c2 : keyS l (i : Int) [105, 110, 116] = true
      · rw [if_pos c2] at h
        simp only [Prod.mk.injEq] at h
        obtain ⟨rfl, _, _⟩ := h
        refine ⟨?_, good0 (by simp) (by simp) (by simp)⟩
        rw [isT_row (r := (1, 1, [], [], 0, 0, [])) rfl]
        simp [bodyS, wordS_e, kidsS]
      rw [if_neg c2] at h
      by_cases c3 : keyS l (i : Int) [98, 111, 111, 108] = true
      · rw [if_pos c3] at h
        simp only [Prod.mk.injEq] at h
        obtain ⟨rfl, _, _⟩ := h
        refine ⟨?_, good0 (by simp) (by simp) (by simp)⟩
        rw [isT_row (r := (1, 2, [], [], 0, 0, [])) rfl]
        simp [bodyS, wordS_e, kidsS]
      rw [if_neg c3] at h
      by_cases c4 : keyS l (i : Int) [117, 110, 105, 116] = true
      · rw [if_pos c4] at h
        simp only [Prod.mk.injEq] at h
        obtain ⟨rfl, _, _⟩ := h
        refine ⟨?_, good0 (by simp) (by simp) (by simp)⟩
        rw [isT_row (r := (1, 3, [], [], 0, 0, [])) rfl]
        simp [bodyS, wordS_e, kidsS]
      rw [if_neg c4] at h
      by_cases c5 : keyS l (i : Int) [40] = true
      · rw [if_pos c5] at h
        have h1 := (ih (i + 1)).1
        generalize typS l n (i + 1) = g at *
        obtain ⟨a, j1, e1⟩ := g
        simp only at h
        by_cases he : e1 = 0
        · subst he
          rw [if_pos rfl] at h
          obtain ⟨a1, a2⟩ := h1 a j1 rfl
          by_cases hk : keyS l (j1 : Int) [41] = true
          · rw [if_pos hk] at h
            simp only [Prod.mk.injEq] at h
            obtain ⟨rfl, _, _⟩ := h
            exact ⟨a1, a2⟩
          · rw [if_neg hk] at h
            simp at h
        · rw [if_neg he] at h
          simp only [Prod.mk.injEq] at h
          exact absurd h.2.2 he
      rw [if_neg c5] at h
      by_cases c6 : keyS l (i : Int) [109, 117] = true
      · rw [if_pos c6] at h
        by_cases c7 : (nameS l ((i + 1 : Nat) : Int)).2 = true
        · rw [if_pos c7] at h
          by_cases c8 : keyS l ((i + 2 : Nat) : Int) [123] = true
          · rw [if_pos c8] at h
            have hck := name_ck c7
            have h1 := (ih (i + 3)).2.2.2 []
            generalize consS l n (i + 3) [] = g at *
            obtain ⟨c, j1, e1⟩ := g
            simp only at h
            by_cases he : e1 = 0
            · subst he
              rw [if_pos rfl] at h
              obtain ⟨a1, a2, a3, a4⟩ := h1 c j1 rfl rfl (by simp)
              by_cases hk : keyS l (j1 : Int) [125] = true
              · rw [if_pos hk] at h
                simp only [Prod.mk.injEq] at h
                obtain ⟨rfl, _, _⟩ := h
                exact ⟨isT_mu hck a1 a2, good0 (by have := ck_len hck; omega) (by simp at a4; omega) a3⟩
              · rw [if_neg hk] at h
                simp at h
            · rw [if_neg he] at h
              simp only [Prod.mk.injEq] at h
              exact absurd h.2.2 he
          · rw [if_neg c8] at h
            simp at h
        · rw [if_neg c7] at h
          simp at h
      · rw [if_neg c6] at h
        simp at h
    · rw [consS] at h
      by_cases c1 : (nameS l (i : Int)).2 = true
      · rw [if_pos c1] at h
        have hck := name_ck c1
        by_cases c2 : (nameS l (i : Int)).1 ∈ out.map nameOf
        · rw [if_pos c2] at h
          simp at h
        rw [if_neg c2] at h
        generalize (nameS l (i : Int)).1 = s at *
        by_cases c3 : keyS l ((i + 1 : Nat) : Int) [111, 102] = true
        · rw [if_pos c3] at h
          have h1 := (ih (i + 2)).1
          generalize typS l n (i + 2) = g at *
          obtain ⟨a, j1, e1⟩ := g
          simp only at h
          by_cases he : e1 = 0
          · subst he
            rw [if_pos rfl] at h
            obtain ⟨a1, a2⟩ := h1 a j1 rfl
            have hco' : consGo (isT 8) [] (out ++ [.node 8 0 s [] [a]]) = true := by
              rw [consGo_snoc, hco, isT_c hck a1, List.nil_append, show nameOf (Tr.node 8 0 s [] [a]) = s from rfl, decide_eq_false c2]; rfl
            have hgo' : ∀ x ∈ out ++ [Tr.node 8 0 s [] [a]], Good x := fun x hx => by
              rcases List.mem_append.1 hx with hx | hx
              · exact hgo x hx
              · rw [List.mem_singleton.1 hx]
                exact good0 (by have := ck_len hck; omega) (by simp) (by simp [a2])
            by_cases hk : keyS l (j1 : Int) [124] = true
            · rw [if_pos hk] at h
              obtain ⟨b1, b2, b3, b4⟩ := (ih (j1 + 1)).2.2.2 _ c j h hco' hgo'
              exact ⟨b1, b2, b3, by simp at b4; omega⟩
            · rw [if_neg hk] at h
              simp only [Prod.mk.injEq] at h
              obtain ⟨rfl, _, _⟩ := h
              exact ⟨hco', by simp, hgo', by simp⟩
          · rw [if_neg he] at h
            simp only [Prod.mk.injEq] at h
            exact absurd h.2.2 he
        · rw [if_neg c3] at h
          simp at h
      · rw [if_neg c1] at h
        simp at h
end
end Go.Proofs.YtpplkbcfidpbcaaGreatDoor

/- What is parsed has an expression's form; how long its text, how many its words may be. Printed by gen7/y6.py. -/
namespace Go.Proofs.YtpplkbcfidpbcaaGreatDoor
open Go Go.Am Go.Sx
theorem mk2 {k n : Int} {nm mk : List UInt8} {ks : List Tr} {r : Row} (h : sel 2 k = [r]) (hb : bodyS isT n nm mk ks r = true) (hn : nm.length ≤ 1000) (hm : mk.length ≤ 1000) (hl : ks.length ≤ 1000000) (hk : ∀ x ∈ ks, Good x) : isT 2 (.node k n nm mk ks) = true ∧ Good (.node k n nm mk ks) :=
  ⟨by rw [isT_row h]; exact hb, .mk (by omega) (by omega) (by omega) hk⟩
section
variable {a b c t : Tr} {s : List UInt8}
theorem good1 (ga : Good a) : ∀ x ∈ [a], Good x := fun x hx => (List.mem_singleton.1 hx) ▸ ga
theorem good2 (ga : Good a) (gb : Good b) : ∀ x ∈ [a, b], Good x := fun x hx => by
  rcases List.mem_cons.1 hx with rfl | hx
  · exact ga
  · exact (List.mem_singleton.1 hx) ▸ gb
theorem mk_int {n : Int} (h : -1073741824 ≤ n ∧ n ≤ 1073741824) : isT 2 (.node 20 n [] [] []) = true ∧ Good (.node 20 n [] [] []) := by
  refine mk2 (r := (2, 20, [], [], -1073741824, 1073741824, [])) rfl ?_ (by simp) (by simp) (by simp) (fun x hx => by cases hx)
  show (true && (true && (decide (-1073741824 ≤ n) && (decide (n ≤ 1073741824) && true)))) = true
  rw [decide_eq_true h.1, decide_eq_true h.2]; rfl
theorem mk_bool {n : Int} (h : n = 0 ∨ n = 1) : isT 2 (.node 21 n [] [] []) = true ∧ Good (.node 21 n [] [] []) := by
  refine mk2 (r := (2, 21, [], [], 0, 1, [])) rfl ?_ (by simp) (by simp) (by simp) (fun x hx => by cases hx)
  show (true && (true && (decide (0 ≤ n) && (decide (n ≤ 1) && true)))) = true
  rw [decide_eq_true (by omega), decide_eq_true (by omega)]; rfl
theorem mk_unit : isT 2 (.node 22 0 [] [] []) = true ∧ Good (.node 22 0 [] [] []) := mk2 (r := (2, 22, [], [], 0, 0, [])) rfl rfl (by simp) (by simp) (by simp) (fun x hx => by cases hx)
theorem mk_var (h : lgS s = true) : isT 2 (.node 23 0 s [] []) = true ∧ Good (.node 23 0 s [] []) := by
  have := lg_len h
  refine mk2 (r := (2, 23, [108], [], 0, 0, [])) rfl ?_ (by omega) (by simp) (by simp) (fun x hx => by cases hx)
  show (lgS s && true) = true
  rw [h]; rfl
theorem mk_lam (hs : ckS s = true) (ht : isT 1 t = true) (gt : Good t) (hb : isT 2 b = true) (gb : Good b) : isT 2 (.node 24 0 s [] [t, b]) = true ∧ Good (.node 24 0 s [] [t, b]) := by
  have := ck_len hs
  refine mk2 (r := (2, 24, [110], [], 0, 0, [116, 101])) rfl ?_ (by omega) (by simp) (by simp) (good2 gt gb)
  show (ckS s && (true && (true && (true && (isT 1 t && (isT 2 b && true)))))) = true
  rw [hs, ht, hb]; rfl
theorem mk_app (ha : isT 2 a = true) (ga : Good a) (hb : isT 2 b = true) (gb : Good b) : isT 2 (.node 25 0 [] [] [a, b]) = true ∧ Good (.node 25 0 [] [] [a, b]) := by
  refine mk2 (r := (2, 25, [], [], 0, 0, [101, 101])) rfl ?_ (by simp) (by simp) (by simp) (good2 ga gb)
  show (true && (true && (true && (true && (isT 2 a && (isT 2 b && true)))))) = true
  rw [ha, hb]; rfl
theorem mk_pair (ha : isT 2 a = true) (ga : Good a) (hb : isT 2 b = true) (gb : Good b) : isT 2 (.node 26 0 [] [] [a, b]) = true ∧ Good (.node 26 0 [] [] [a, b]) := by
  refine mk2 (r := (2, 26, [], [], 0, 0, [101, 101])) rfl ?_ (by simp) (by simp) (by simp) (good2 ga gb)
  show (true && (true && (true && (true && (isT 2 a && (isT 2 b && true)))))) = true
  rw [ha, hb]; rfl
theorem mk_fst (ha : isT 2 a = true) (ga : Good a) : isT 2 (.node 27 0 [] [] [a]) = true ∧ Good (.node 27 0 [] [] [a]) := by
  refine mk2 (r := (2, 27, [], [], 0, 0, [101])) rfl ?_ (by simp) (by simp) (by simp) (good1 ga)
  show (true && (true && (true && (true && (isT 2 a && true))))) = true
  rw [ha]; rfl
theorem mk_snd (ha : isT 2 a = true) (ga : Good a) : isT 2 (.node 28 0 [] [] [a]) = true ∧ Good (.node 28 0 [] [] [a]) := by
  refine mk2 (r := (2, 28, [], [], 0, 0, [101])) rfl ?_ (by simp) (by simp) (by simp) (good1 ga)
  show (true && (true && (true && (true && (isT 2 a && true))))) = true
  rw [ha]; rfl
theorem mk_let (hs : ckS s = true) (ha : isT 2 a = true) (ga : Good a) (hb : isT 2 b = true) (gb : Good b) : isT 2 (.node 29 0 s [] [a, b]) = true ∧ Good (.node 29 0 s [] [a, b]) := by
  have := ck_len hs
  refine mk2 (r := (2, 29, [110], [], 0, 0, [101, 101])) rfl ?_ (by omega) (by simp) (by simp) (good2 ga gb)
  show (ckS s && (true && (true && (true && (isT 2 a && (isT 2 b && true)))))) = true
  rw [hs, ha, hb]; rfl
theorem mk_if (ha : isT 2 a = true) (ga : Good a) (hb : isT 2 b = true) (gb : Good b) (hc : isT 2 c = true) (gc : Good c) : isT 2 (.node 30 0 [] [] [a, b, c]) = true ∧ Good (.node 30 0 [] [] [a, b, c]) := by
  refine mk2 (r := (2, 30, [], [], 0, 0, [101, 101, 101])) rfl ?_ (by simp) (by simp) (by simp) (fun x hx => ?_)
  · show (true && (true && (true && (true && (isT 2 a && (isT 2 b && (isT 2 c && true))))))) = true
    rw [ha, hb, hc]; rfl
  · rcases List.mem_cons.1 hx with rfl | hx
    · exact ga
    · exact good2 gb gc x hx
theorem mk_op {n : Int} (h : 1 ≤ n ∧ n ≤ 5) (ha : isT 2 a = true) (ga : Good a) (hb : isT 2 b = true) (gb : Good b) : isT 2 (opN n a b) = true ∧ Good (opN n a b) := by
  refine mk2 (r := (2, 31, [], [], 1, 5, [101, 101])) rfl ?_ (by simp) (by simp) (by simp) (good2 ga gb)
  show (true && (true && (decide (1 ≤ n) && (decide (n ≤ 5) && (isT 2 a && (isT 2 b && true)))))) = true
  rw [ha, hb, decide_eq_true h.1, decide_eq_true h.2]; rfl
/-- arms that have a form -/
def ArmL (r : List Tr) : Prop := ∀ y ∈ r, isT 9 y = true ∧ Good y
theorem arm_all {r : List Tr} (h : ArmL r) : r.all (isT 9) = true := List.all_eq_true.2 fun y hy => (h y hy).1
theorem mk_case {r : List Tr} (ha : isT 2 a = true) (ga : Good a) (hr : ArmL r) (h0 : 0 < r.length) (hl : r.length ≤ 1000) : isT 2 (.node 32 0 [] [] (a :: r)) = true ∧ Good (.node 32 0 [] [] (a :: r)) := by
  refine mk2 (r := (2, 32, [], [], 0, 0, [101, 65])) rfl ?_ (by simp) (by simp) (by simp; omega) (fun x hx => ?_)
  · show (true && (true && (true && (true && (isT 2 a && (r.all (isT 9) && decide (0 < r.length))))))) = true
    rw [ha, arm_all hr, decide_eq_true h0]; rfl
  · rcases List.mem_cons.1 hx with rfl | hx
    · exact ga
    · exact (hr x hx).2
theorem mk_fold {r : List Tr} (ha : isT 2 a = true) (ga : Good a) (ht : isT 1 t = true) (gt : Good t) (hr : ArmL r) (h0 : 0 < r.length) (hl : r.length ≤ 1000) : isT 2 (.node 33 0 [] [] (a :: t :: r)) = true ∧ Good (.node 33 0 [] [] (a :: t :: r)) := by
  refine mk2 (r := (2, 33, [], [], 0, 0, [101, 116, 65])) rfl ?_ (by simp) (by simp) (by simp; omega) (fun x hx => ?_)
  · show (true && (true && (true && (true && (isT 2 a && (isT 1 t && (r.all (isT 9) && decide (0 < r.length)))))))) = true
    rw [ha, ht, arm_all hr, decide_eq_true h0]; rfl
  · rcases List.mem_cons.1 hx with rfl | hx
    · exact ga
    · rcases List.mem_cons.1 hx with rfl | hx
      · exact gt
      · exact (hr x hx).2
theorem mk_arm {x : List UInt8} (hs : ckS s = true) (hx : ckS x = true) (ha : isT 2 a = true) (ga : Good a) : isT 9 (.node 34 0 s x [a]) = true ∧ Good (.node 34 0 s x [a]) := by
  have := ck_len hs
  have := ck_len hx
  refine ⟨?_, .mk (by omega) (by omega) (by simp) (good1 ga)⟩
  rw [isT_row (r := (9, 34, [110], [110], 0, 0, [101])) rfl]
  show (ckS s && (ckS x && (true && (true && (isT 2 a && true))))) = true
  rw [hs, hx, ha]; rfl
end
theorem yes_at {α : Type} {a : α} {j : Nat} {p : α → Nat → Prop} (h : p a j) : Yes (a, j, 0) p := fun _ => h
theorem tl_op {n : Int} {a b : Tr} : tl (opN n a b) = 30 + tl a + tl b := by unfold opN; rw [tl_node (by decide), tlL_cons, tlL_cons, tlL_nil]; simp; omega
theorem wc_op {n : Int} {a b : Tr} : wc (opN n a b) = 8 + wc a + wc b := by unfold opN; rw [wc_node (by decide) (by decide), wcL_cons, wcL_cons, wcL_nil]; omega
/-- what is told of an expression between two places -/
def FE (i0 : Nat) (t : Tr) (j : Nat) : Prop := isT 2 t = true ∧ Good t ∧ tl t + 36 + 200 * i0 ≤ 200 * j ∧ wc t + 8 + 12 * i0 ≤ 12 * j
def FT (i0 : Nat) (t : Tr) (j : Nat) : Prop := isT 1 t = true ∧ Good t ∧ 200 * t.w + 200 * i0 ≤ 200 * j ∧ 8 * t.w + 8 * i0 ≤ 8 * j
def FA (i0 : Nat) (out r : List Tr) (j : Nat) : Prop := ArmL r ∧ out.length < r.length ∧ tlL r + 200 * i0 ≤ tlL out + 200 * j ∧ (wcL r + 12 * i0 ≤ wcL out + 12 * j ∧ r.length + i0 ≤ out.length + j)
theorem tlL_app : ∀ (a b : List Tr), tlL (a ++ b) = tlL a + tlL b
  | [], b => by rw [tlL_nil]; simp
  | x :: a, b => by rw [List.cons_append, tlL_cons, tlL_cons, tlL_app a b]; omega
theorem wcL_app : ∀ (a b : List Tr), wcL (a ++ b) = wcL a + wcL b
  | [], b => by rw [wcL_nil]; simp
  | x :: a, b => by rw [List.cons_append, wcL_cons, wcL_cons, wcL_app a b]; omega
theorem nm_ck {l : List Token} {i : Nat} (h : (nmR l i).2.2 = 0) : ckS (nmR l i).1 = true := by
  unfold nmR at h ⊢
  by_cases hk : (nameS l (i : Int)).2 = true
  · rw [if_pos hk]; exact name_ck hk
  · rw [if_neg hk] at h; exact absurd (show (6 : Int) = 0 from h) (by decide)
section
variable {l : List Token} (hl : l.length ≤ 1000)
include hl
theorem ty_fm {i : Nat} (hi : i ≤ l.length) : Yes (tyR l i) (FT i) := by
  intro h
  obtain ⟨h2, h3⟩ := ty_bd hl hi
  have hf := (pf_all l (3 * l.length + 3) (by omega) i).1
  unfold tyR at h ⊢
  generalize typS l (3 * l.length + 3) i = g at *
  obtain ⟨t, j, e⟩ := g
  have h : e = 0 := h
  subst h
  obtain ⟨f1, f2⟩ := hf t j rfl
  have := (h3 rfl).2
  exact ⟨f1, f2, by simp only at *; omega, by simp only at *; omega⟩
theorem e_fm : ∀ n i, i ≤ l.length → Yes (eExpr l n i) (FE i) ∧ (∀ out, ArmL out → out.length ≤ i → Yes (eArms l n out i) (FA i out)) ∧ Yes (eCmp l n i) (FE i) ∧ Yes (eSum l n i) (FE i) ∧ (∀ i0 a, FE i0 a i → Yes (eSumL l n a i) (FE i0)) ∧
    Yes (eTerm l n i) (FE i) ∧ (∀ i0 a, FE i0 a i → Yes (eTermL l n a i) (FE i0)) ∧ Yes (eApp l n i) (FE i) ∧ (∀ i0 a, FE i0 a i → Yes (eAppL l n a i) (FE i0)) ∧ Yes (eAtom l n i) (FE i) := by
  intro n
  induction n with
  | zero =>
    intro i hi
    have no : ∀ {α : Type} {d : α} {j : Nat} {p : α → Nat → Prop}, Yes (d, j, 6) p := fun h => absurd (show (6 : Int) = 0 from h) (by decide)
    refine ⟨?_, fun out _ _ => ?_, ?_, ?_, fun i0 a _ => ?_, ?_, fun i0 a _ => ?_, ?_, fun i0 a _ => ?_, ?_⟩
    · rw [eExpr]; exact no
    · rw [eArms]; exact no
    · rw [eCmp]; exact no
    · rw [eSum]; exact no
    · rw [eSumL]; exact no
    · rw [eTerm]; exact no
    · rw [eTermL]; exact no
    · rw [eApp]; exact no
    · rw [eAppL]; exact no
    · rw [eAtom]; exact no
  | succ n ih =>
    intro i hi
    have ihE : ∀ j, j ≤ l.length → Yes (eExpr l n j) (FE j) := fun j h => (ih j h).1
    have ihA : ∀ j, j ≤ l.length → ∀ out, ArmL out → out.length ≤ j → Yes (eArms l n out j) (FA j out) := fun j h => (ih j h).2.1
    have ihC : ∀ j, j ≤ l.length → Yes (eCmp l n j) (FE j) := fun j h => (ih j h).2.2.1
    have ihS : ∀ j, j ≤ l.length → Yes (eSum l n j) (FE j) := fun j h => (ih j h).2.2.2.1
    have ihSL : ∀ j, j ≤ l.length → ∀ i0 a, FE i0 a j → Yes (eSumL l n a j) (FE i0) := fun j h => (ih j h).2.2.2.2.1
    have ihT : ∀ j, j ≤ l.length → Yes (eTerm l n j) (FE j) := fun j h => (ih j h).2.2.2.2.2.1
    have ihTL : ∀ j, j ≤ l.length → ∀ i0 a, FE i0 a j → Yes (eTermL l n a j) (FE i0) := fun j h => (ih j h).2.2.2.2.2.2.1
    have ihP : ∀ j, j ≤ l.length → Yes (eApp l n j) (FE j) := fun j h => (ih j h).2.2.2.2.2.2.2.1
    have ihPL : ∀ j, j ≤ l.length → ∀ i0 a, FE i0 a j → Yes (eAppL l n a j) (FE i0) := fun j h => (ih j h).2.2.2.2.2.2.2.2.1
    have ihO : ∀ j, j ≤ l.length → Yes (eAtom l n j) (FE j) := fun j h => (ih j h).2.2.2.2.2.2.2.2.2
    refine ⟨?_, fun out ho hol => ?_, ?_, ?_, fun i0 a hfa => ?_, ?_, fun i0 a hfa => ?_, ?_, fun i0 a hfa => ?_, ?_⟩
    · rw [eExpr]
      by_cases k_fn : keyS l (i : Int) [102, 110] = true
      · rw [if_pos k_fn]
        have hin := key_in k_fn
        have b := bw_ks l [[40]] (i + 1) (by omega)
        generalize ks l [[40]] (i + 1) = g1 at *
        obtain ⟨g1a, g1b⟩ := b
        refine yes_bnd fun h1 => ?_
        have b := bw_nm (l := l) (i := g1.2.1) (by omega)
        have sN := nm_at (l := l) (i := g1.2.1)
        have cN := nm_ck (l := l) (i := g1.2.1)
        generalize nmR l (g1.2.1) = g2 at *
        obtain ⟨g2a, g2b⟩ := b
        refine yes_bnd fun h2 => ?_
        have sN := sN h2
        have c2 := cN h2
        have n2 := ck_len c2
        have b := bw_ks l [[58]] (g2.2.1) (by omega)
        generalize ks l [[58]] (g2.2.1) = g3 at *
        obtain ⟨g3a, g3b⟩ := b
        refine yes_bnd fun h3 => ?_
        have b := ty_pz hl (i := g3.2.1) (by omega)
        have f := ty_fm hl (i := g3.2.1) (by omega)
        generalize tyR l (g3.2.1) = g4 at *
        obtain ⟨g4a, g4b, _⟩ := b
        refine yes_bnd fun h4 => ?_
        obtain ⟨g4t, g4g, g4l, g4w⟩ := f h4
        have b := bw_ks l [[41], [61, 62]] (g4.2.1) (by omega)
        generalize ks l [[41], [61, 62]] (g4.2.1) = g5 at *
        obtain ⟨g5a, g5b⟩ := b
        refine yes_bnd fun h5 => ?_
        have b := e_bd_eExpr hl n (g5.2.1) (by omega)
        have f := ihE (g5.2.1) (by omega)
        generalize eExpr l n (g5.2.1) = g6 at *
        obtain ⟨g6a, g6b, _⟩ := b
        refine yes_bnd fun h6 => ?_
        obtain ⟨g6t, g6g, g6l, g6w⟩ := f h6
        have m := mk_lam c2 g4t g4g g6t g6g
        exact yes_at ⟨m.1, m.2, by rw [tl_node (by decide), tlL_cons, tlL_cons, tlL_nil, tl_ty g4t]; simp only [List.length_nil]; omega, by rw [wc_node (by decide) (by decide), wcL_cons, wcL_cons, wcL_nil, wc_ty g4t]; omega⟩
      rw [if_neg k_fn]
      by_cases k_let : keyS l (i : Int) [108, 101, 116] = true
      · rw [if_pos k_let]
        have hin := key_in k_let
        have b := bw_nm (l := l) (i := i + 1) (by omega)
        have sN := nm_at (l := l) (i := i + 1)
        have cN := nm_ck (l := l) (i := i + 1)
        generalize nmR l (i + 1) = g1 at *
        obtain ⟨g1a, g1b⟩ := b
        refine yes_bnd fun h1 => ?_
        have sN := sN h1
        have c1 := cN h1
        have n1 := ck_len c1
        have b := bw_ks l [[61]] (g1.2.1) (by omega)
        generalize ks l [[61]] (g1.2.1) = g2 at *
        obtain ⟨g2a, g2b⟩ := b
        refine yes_bnd fun h2 => ?_
        have b := e_bd_eExpr hl n (g2.2.1) (by omega)
        have f := ihE (g2.2.1) (by omega)
        generalize eExpr l n (g2.2.1) = g3 at *
        obtain ⟨g3a, g3b, _⟩ := b
        refine yes_bnd fun h3 => ?_
        obtain ⟨g3t, g3g, g3l, g3w⟩ := f h3
        have b := bw_ks l [[105, 110]] (g3.2.1) (by omega)
        generalize ks l [[105, 110]] (g3.2.1) = g4 at *
        obtain ⟨g4a, g4b⟩ := b
        refine yes_bnd fun h4 => ?_
        have b := e_bd_eExpr hl n (g4.2.1) (by omega)
        have f := ihE (g4.2.1) (by omega)
        generalize eExpr l n (g4.2.1) = g5 at *
        obtain ⟨g5a, g5b, _⟩ := b
        refine yes_bnd fun h5 => ?_
        obtain ⟨g5t, g5g, g5l, g5w⟩ := f h5
        have b := bw_ks l [[101, 110, 100]] (g5.2.1) (by omega)
        generalize ks l [[101, 110, 100]] (g5.2.1) = g6 at *
        obtain ⟨g6a, g6b⟩ := b
        refine yes_bnd fun h6 => ?_
        have m := mk_let c1 g3t g3g g5t g5g
        exact yes_at ⟨m.1, m.2, by rw [tl_node (by decide), tlL_cons, tlL_cons, tlL_nil]; simp only [List.length_nil]; omega, by rw [wc_node (by decide) (by decide), wcL_cons, wcL_cons, wcL_nil]; omega⟩
      rw [if_neg k_let]
      by_cases k_if : keyS l (i : Int) [105, 102] = true
      · rw [if_pos k_if]
        have hin := key_in k_if
        have b := e_bd_eExpr hl n (i + 1) (by omega)
        have f := ihE (i + 1) (by omega)
        generalize eExpr l n (i + 1) = g1 at *
        obtain ⟨g1a, g1b, _⟩ := b
        refine yes_bnd fun h1 => ?_
        obtain ⟨g1t, g1g, g1l, g1w⟩ := f h1
        have b := bw_ks l [[116, 104, 101, 110]] (g1.2.1) (by omega)
        generalize ks l [[116, 104, 101, 110]] (g1.2.1) = g2 at *
        obtain ⟨g2a, g2b⟩ := b
        refine yes_bnd fun h2 => ?_
        have b := e_bd_eExpr hl n (g2.2.1) (by omega)
        have f := ihE (g2.2.1) (by omega)
        generalize eExpr l n (g2.2.1) = g3 at *
        obtain ⟨g3a, g3b, _⟩ := b
        refine yes_bnd fun h3 => ?_
        obtain ⟨g3t, g3g, g3l, g3w⟩ := f h3
        have b := bw_ks l [[101, 108, 115, 101]] (g3.2.1) (by omega)
        generalize ks l [[101, 108, 115, 101]] (g3.2.1) = g4 at *
        obtain ⟨g4a, g4b⟩ := b
        refine yes_bnd fun h4 => ?_
        have b := e_bd_eExpr hl n (g4.2.1) (by omega)
        have f := ihE (g4.2.1) (by omega)
        generalize eExpr l n (g4.2.1) = g5 at *
        obtain ⟨g5a, g5b, _⟩ := b
        refine yes_bnd fun h5 => ?_
        obtain ⟨g5t, g5g, g5l, g5w⟩ := f h5
        have m := mk_if g1t g1g g3t g3g g5t g5g
        exact yes_at ⟨m.1, m.2, by rw [tl_node (by decide), tlL_cons, tlL_cons, tlL_cons, tlL_nil]; simp only [List.length_nil]; omega, by rw [wc_node (by decide) (by decide), wcL_cons, wcL_cons, wcL_cons, wcL_nil]; omega⟩
      rw [if_neg k_if]
      by_cases k_case : keyS l (i : Int) [99, 97, 115, 101] = true
      · rw [if_pos k_case]
        have hin := key_in k_case
        have b := e_bd_eExpr hl n (i + 1) (by omega)
        have f := ihE (i + 1) (by omega)
        generalize eExpr l n (i + 1) = g1 at *
        obtain ⟨g1a, g1b, _⟩ := b
        refine yes_bnd fun h1 => ?_
        obtain ⟨g1t, g1g, g1l, g1w⟩ := f h1
        have b := bw_ks l [[111, 102]] (g1.2.1) (by omega)
        generalize ks l [[111, 102]] (g1.2.1) = g2 at *
        obtain ⟨g2a, g2b⟩ := b
        refine yes_bnd fun h2 => ?_
        have b := e_bd_eArms hl n [] (g2.2.1) (by omega)
        have f := ihA (g2.2.1) (by omega) [] (fun y hy => by cases hy) (by simp)
        generalize eArms l n [] (g2.2.1) = g3 at *
        obtain ⟨g3a, g3b, _⟩ := b
        refine yes_bnd fun h3 => ?_
        obtain ⟨g3t, g3n, g3l, g3w, g3m⟩ := f h3
        rw [List.length_nil] at g3m
        rw [tlL_nil] at g3l
        rw [wcL_nil] at g3w
        rw [List.length_nil] at g3n
        have m := mk_case g1t g1g g3t (by omega) (by omega)
        exact yes_at ⟨m.1, m.2, by rw [tl_node (by decide), tlL_cons]; simp only [List.length_nil]; omega, by rw [wc_node (by decide) (by decide), wcL_cons]; omega⟩
      rw [if_neg k_case]
      by_cases k_fold : keyS l (i : Int) [102, 111, 108, 100] = true
      · rw [if_pos k_fold]
        have hin := key_in k_fold
        have b := e_bd_eExpr hl n (i + 1) (by omega)
        have f := ihE (i + 1) (by omega)
        generalize eExpr l n (i + 1) = g1 at *
        obtain ⟨g1a, g1b, _⟩ := b
        refine yes_bnd fun h1 => ?_
        obtain ⟨g1t, g1g, g1l, g1w⟩ := f h1
        have b := bw_ks l [[116, 111]] (g1.2.1) (by omega)
        generalize ks l [[116, 111]] (g1.2.1) = g2 at *
        obtain ⟨g2a, g2b⟩ := b
        refine yes_bnd fun h2 => ?_
        have b := ty_pz hl (i := g2.2.1) (by omega)
        have f := ty_fm hl (i := g2.2.1) (by omega)
        generalize tyR l (g2.2.1) = g3 at *
        obtain ⟨g3a, g3b, _⟩ := b
        refine yes_bnd fun h3 => ?_
        obtain ⟨g3t, g3g, g3l, g3w⟩ := f h3
        have b := bw_ks l [[111, 102]] (g3.2.1) (by omega)
        generalize ks l [[111, 102]] (g3.2.1) = g4 at *
        obtain ⟨g4a, g4b⟩ := b
        refine yes_bnd fun h4 => ?_
        have b := e_bd_eArms hl n [] (g4.2.1) (by omega)
        have f := ihA (g4.2.1) (by omega) [] (fun y hy => by cases hy) (by simp)
        generalize eArms l n [] (g4.2.1) = g5 at *
        obtain ⟨g5a, g5b, _⟩ := b
        refine yes_bnd fun h5 => ?_
        obtain ⟨g5t, g5n, g5l, g5w, g5m⟩ := f h5
        rw [List.length_nil] at g5m
        rw [tlL_nil] at g5l
        rw [wcL_nil] at g5w
        rw [List.length_nil] at g5n
        have m := mk_fold g1t g1g g3t g3g g5t (by omega) (by omega)
        exact yes_at ⟨m.1, m.2, by rw [tl_node (by decide), tlL_cons, tlL_cons, tl_ty g3t]; simp only [List.length_nil]; omega, by rw [wc_node (by decide) (by decide), wcL_cons, wcL_cons, wc_ty g3t]; omega⟩
      rw [if_neg k_fold]
      exact ihC i hi
    · rw [eArms]
      have b := bw_nm (l := l) (i := i) (by omega)
      have sN := nm_at (l := l) (i := i)
      have cN := nm_ck (l := l) (i := i)
      generalize nmR l (i) = g1 at *
      obtain ⟨g1a, g1b⟩ := b
      refine yes_bnd fun h1 => ?_
      have sN := sN h1
      have c1 := cN h1
      have n1 := ck_len c1
      have b := bw_nm (l := l) (i := g1.2.1) (by omega)
      have sN := nm_at (l := l) (i := g1.2.1)
      have cN := nm_ck (l := l) (i := g1.2.1)
      generalize nmR l (g1.2.1) = g2 at *
      obtain ⟨g2a, g2b⟩ := b
      refine yes_bnd fun h2 => ?_
      have sN := sN h2
      have c2 := cN h2
      have n2 := ck_len c2
      have b := bw_ks l [[61, 62]] (g2.2.1) (by omega)
      generalize ks l [[61, 62]] (g2.2.1) = g3 at *
      obtain ⟨g3a, g3b⟩ := b
      refine yes_bnd fun h3 => ?_
      have b := e_bd_eExpr hl n (g3.2.1) (by omega)
      have f := ihE (g3.2.1) (by omega)
      generalize eExpr l n (g3.2.1) = g4 at *
      obtain ⟨g4a, g4b, _⟩ := b
      refine yes_bnd fun h4 => ?_
      obtain ⟨g4t, g4g, g4l, g4w⟩ := f h4
      have m := mk_arm c1 c2 g4t g4g
      have harm : ArmL (out ++ [.node 34 0 g1.1 g2.1 [g4.1]]) := fun y hy => by
        rcases List.mem_append.1 hy with hy | hy
        · exact ho y hy
        · rw [List.mem_singleton.1 hy]; exact m
      have hlen : (out ++ [Tr.node 34 0 g1.1 g2.1 [g4.1]]).length = out.length + 1 := by simp
      have ht : tlL (out ++ [.node 34 0 g1.1 g2.1 [g4.1]]) = tlL out + (30 + (g1.1.length + g2.1.length) + tl g4.1) := by rw [tlL_app, tlL_cons, tlL_nil, tl_node (by decide), tlL_cons, tlL_nil]; omega
      have hw : wcL (out ++ [.node 34 0 g1.1 g2.1 [g4.1]]) = wcL out + (8 + wc g4.1) := by rw [wcL_app, wcL_cons, wcL_nil, wc_node (by decide) (by decide), wcL_cons, wcL_nil]; omega
      by_cases kb : keyS l (g4.2.1 : Int) [124] = true
      · rw [if_pos kb]
        have hin := key_in kb
        have f := ihA (g4.2.1 + 1) (by omega) _ harm (by omega)
        intro h
        obtain ⟨f1, f2, f3, f4, f5⟩ := f h
        exact ⟨f1, by omega, by omega, by omega, by omega⟩
      · rw [if_neg kb]
        have b := bw_ks l [[101, 110, 100]] g4.2.1 (by omega)
        generalize ks l [[101, 110, 100]] g4.2.1 = g5 at *
        obtain ⟨g5a, g5b⟩ := b
        refine yes_bnd fun h5 => ?_
        exact yes_at ⟨harm, by omega, by omega, by omega, by omega⟩
    · rw [eCmp]
      have b := e_bd_eSum hl n (i) (by omega)
      have f := ihS (i) (by omega)
      generalize eSum l n (i) = g1 at *
      obtain ⟨g1a, g1b, _⟩ := b
      refine yes_bnd fun h1 => ?_
      obtain ⟨g1t, g1g, g1l, g1w⟩ := f h1
      by_cases k4 : keyS l (g1.2.1 : Int) [61] = true
      · rw [if_pos k4]
        have hin := key_in k4
        have b := e_bd_eSum hl n (g1.2.1 + 1) (by omega)
        have f := ihS (g1.2.1 + 1) (by omega)
        generalize eSum l n (g1.2.1 + 1) = g2 at *
        obtain ⟨g2a, g2b, _⟩ := b
        refine yes_bnd fun h2 => ?_
        obtain ⟨g2t, g2g, g2l, g2w⟩ := f h2
        have m := mk_op (n := 4) (by decide) g1t g1g g2t g2g
        exact yes_at ⟨m.1, m.2, by rw [tl_op]; omega, by rw [wc_op]; omega⟩
      rw [if_neg k4]
      by_cases k5 : keyS l (g1.2.1 : Int) [60] = true
      · rw [if_pos k5]
        have hin := key_in k5
        have b := e_bd_eSum hl n (g1.2.1 + 1) (by omega)
        have f := ihS (g1.2.1 + 1) (by omega)
        generalize eSum l n (g1.2.1 + 1) = g2 at *
        obtain ⟨g2a, g2b, _⟩ := b
        refine yes_bnd fun h2 => ?_
        obtain ⟨g2t, g2g, g2l, g2w⟩ := f h2
        have m := mk_op (n := 5) (by decide) g1t g1g g2t g2g
        exact yes_at ⟨m.1, m.2, by rw [tl_op]; omega, by rw [wc_op]; omega⟩
      rw [if_neg k5]
      exact yes_at ⟨g1t, g1g, g1l, g1w⟩
    · rw [eSum]
      have b := e_bd_eTerm hl n (i) (by omega)
      have f := ihT (i) (by omega)
      generalize eTerm l n (i) = g1 at *
      obtain ⟨g1a, g1b, _⟩ := b
      refine yes_bnd fun h1 => ?_
      obtain ⟨g1t, g1g, g1l, g1w⟩ := f h1
      exact ihSL g1.2.1 (by omega) i g1.1 ⟨g1t, g1g, g1l, g1w⟩
    · rw [eSumL]
      obtain ⟨a1, a2, a3, a4⟩ := hfa
      by_cases k0 : keyS l (i : Int) [43] = true
      · rw [if_pos k0]
        have hin := key_in k0
        have b := e_bd_eTerm hl n (i + 1) (by omega)
        have f := ihT (i + 1) (by omega)
        generalize eTerm l n (i + 1) = g1 at *
        obtain ⟨g1a, g1b, _⟩ := b
        refine yes_bnd fun h1 => ?_
        obtain ⟨g1t, g1g, g1l, g1w⟩ := f h1
        have m := mk_op (n := 1) (by decide) a1 a2 g1t g1g
        exact ihSL g1.2.1 (by omega) i0 _ ⟨m.1, m.2, by rw [tl_op]; omega, by rw [wc_op]; omega⟩
      rw [if_neg k0]
      by_cases k1 : keyS l (i : Int) [45] = true
      · rw [if_pos k1]
        have hin := key_in k1
        have b := e_bd_eTerm hl n (i + 1) (by omega)
        have f := ihT (i + 1) (by omega)
        generalize eTerm l n (i + 1) = g1 at *
        obtain ⟨g1a, g1b, _⟩ := b
        refine yes_bnd fun h1 => ?_
        obtain ⟨g1t, g1g, g1l, g1w⟩ := f h1
        have m := mk_op (n := 2) (by decide) a1 a2 g1t g1g
        exact ihSL g1.2.1 (by omega) i0 _ ⟨m.1, m.2, by rw [tl_op]; omega, by rw [wc_op]; omega⟩
      rw [if_neg k1]
      exact yes_at ⟨a1, a2, a3, a4⟩
    · rw [eTerm]
      have b := e_bd_eApp hl n (i) (by omega)
      have f := ihP (i) (by omega)
      generalize eApp l n (i) = g1 at *
      obtain ⟨g1a, g1b, _⟩ := b
      refine yes_bnd fun h1 => ?_
      obtain ⟨g1t, g1g, g1l, g1w⟩ := f h1
      exact ihTL g1.2.1 (by omega) i g1.1 ⟨g1t, g1g, g1l, g1w⟩
    · rw [eTermL]
      obtain ⟨a1, a2, a3, a4⟩ := hfa
      by_cases k0 : keyS l (i : Int) [42] = true
      · rw [if_pos k0]
        have hin := key_in k0
        have b := e_bd_eApp hl n (i + 1) (by omega)
        have f := ihP (i + 1) (by omega)
        generalize eApp l n (i + 1) = g1 at *
        obtain ⟨g1a, g1b, _⟩ := b
        refine yes_bnd fun h1 => ?_
        obtain ⟨g1t, g1g, g1l, g1w⟩ := f h1
        have m := mk_op (n := 3) (by decide) a1 a2 g1t g1g
        exact ihTL g1.2.1 (by omega) i0 _ ⟨m.1, m.2, by rw [tl_op]; omega, by rw [wc_op]; omega⟩
      rw [if_neg k0]
      exact yes_at ⟨a1, a2, a3, a4⟩
    · rw [eApp]
      have b := e_bd_eAtom hl n (i) (by omega)
      have f := ihO (i) (by omega)
      generalize eAtom l n (i) = g1 at *
      obtain ⟨g1a, g1b, _⟩ := b
      refine yes_bnd fun h1 => ?_
      obtain ⟨g1t, g1g, g1l, g1w⟩ := f h1
      exact ihPL g1.2.1 (by omega) i g1.1 ⟨g1t, g1g, g1l, g1w⟩
    · rw [eAppL]
      obtain ⟨a1, a2, a3, a4⟩ := hfa
      by_cases k0 : stS l i = true
      · rw [if_pos k0]
        have hin := st_in k0
        have b := e_bd_eAtom hl n (i) (by omega)
        have f := ihO (i) (by omega)
        generalize eAtom l n (i) = g1 at *
        obtain ⟨g1a, g1b, _⟩ := b
        refine yes_bnd fun h1 => ?_
        obtain ⟨g1t, g1g, g1l, g1w⟩ := f h1
        have m := mk_app a1 a2 g1t g1g
        exact ihPL g1.2.1 (by omega) i0 _ ⟨m.1, m.2, by rw [tl_node (by decide), tlL_cons, tlL_cons, tlL_nil]; simp only [List.length_nil]; omega, by rw [wc_node (by decide) (by decide), wcL_cons, wcL_cons, wcL_nil]; omega⟩
      rw [if_neg k0]
      exact yes_at ⟨a1, a2, a3, a4⟩
    · rw [eAtom]
      by_cases ks0 : stS l i = true
      · rw [if_pos ks0]
        have hin := st_in ks0
        obtain ⟨k, _, _, hk⟩ := tok_some (l := l) (i := (i : Int)) (by omega)
        unfold stS at ks0
        rw [hk] at ks0 ⊢
        simp only at ks0 ⊢
        by_cases c0 : k.1 = 2
        · rw [if_pos c0]
          rw [if_neg (by omega), if_pos c0, Bool.and_eq_true] at ks0
          have hb : -1073741824 ≤ k.2.2.1 ∧ k.2.2.1 ≤ 1073741824 := ⟨of_decide_eq_true ks0.1, of_decide_eq_true ks0.2⟩
          exact yes_at ⟨(mk_int hb).1, (mk_int hb).2, by rw [tl_node (by decide), tlL_nil]; simp only [List.length_nil]; omega, by rw [wc_leaf (by decide) (by decide), wcL_nil]; omega⟩
        rw [if_neg c0]
        by_cases c1 : k.1 = 1
        · rw [if_pos c1]
          rw [if_neg (by omega), if_neg c0, Bool.and_eq_true] at ks0
          have hn := lg_len ks0.2
          exact yes_at ⟨(mk_var ks0.2).1, (mk_var ks0.2).2, by rw [tl_node (by decide), tlL_nil]; simp only [List.length_nil]; omega, by rw [wc_leaf (by decide) (by decide), wcL_nil]; omega⟩
        rw [if_neg c1]
        by_cases c2 : k.2.1 = [116, 114, 117, 101]
        · rw [if_pos c2]
          exact yes_at ⟨(mk_bool (.inr rfl)).1, (mk_bool (.inr rfl)).2, by rw [tl_node (by decide), tlL_nil]; simp only [List.length_nil]; omega, by rw [wc_leaf (by decide) (by decide), wcL_nil]; omega⟩
        rw [if_neg c2]
        by_cases c3 : k.2.1 = [102, 97, 108, 115, 101]
        · rw [if_pos c3]
          exact yes_at ⟨(mk_bool (.inl rfl)).1, (mk_bool (.inl rfl)).2, by rw [tl_node (by decide), tlL_nil]; simp only [List.length_nil]; omega, by rw [wc_leaf (by decide) (by decide), wcL_nil]; omega⟩
        rw [if_neg c3]
        by_cases c4 : k.2.1 = [35, 49]
        · rw [if_pos c4]
          have b := e_bd_eAtom hl n (i + 1) (by omega)
          have f := ihO (i + 1) (by omega)
          generalize eAtom l n (i + 1) = g1 at *
          obtain ⟨g1a, g1b, _⟩ := b
          refine yes_bnd fun h1 => ?_
          obtain ⟨g1t, g1g, g1l, g1w⟩ := f h1
          have m := mk_fst g1t g1g
          exact yes_at ⟨m.1, m.2, by rw [tl_node (by decide), tlL_cons, tlL_nil]; simp only [List.length_nil]; omega, by rw [wc_node (by decide) (by decide), wcL_cons, wcL_nil]; omega⟩
        rw [if_neg c4]
        by_cases c5 : k.2.1 = [35, 50]
        · rw [if_pos c5]
          have b := e_bd_eAtom hl n (i + 1) (by omega)
          have f := ihO (i + 1) (by omega)
          generalize eAtom l n (i + 1) = g1 at *
          obtain ⟨g1a, g1b, _⟩ := b
          refine yes_bnd fun h1 => ?_
          obtain ⟨g1t, g1g, g1l, g1w⟩ := f h1
          have m := mk_snd g1t g1g
          exact yes_at ⟨m.1, m.2, by rw [tl_node (by decide), tlL_cons, tlL_nil]; simp only [List.length_nil]; omega, by rw [wc_node (by decide) (by decide), wcL_cons, wcL_nil]; omega⟩
        rw [if_neg c5]
        by_cases c6 : keyS l ((i + 1 : Nat) : Int) [41] = true
        · rw [if_pos c6]
          exact yes_at ⟨(mk_unit).1, (mk_unit).2, by rw [tl_node (by decide), tlL_nil]; simp only [List.length_nil]; omega, by rw [wc_leaf (by decide) (by decide), wcL_nil]; omega⟩
        rw [if_neg c6]
        have b := e_bd_eExpr hl n (i + 1) (by omega)
        have f := ihE (i + 1) (by omega)
        generalize eExpr l n (i + 1) = g1 at *
        obtain ⟨g1a, g1b, _⟩ := b
        refine yes_bnd fun h1 => ?_
        obtain ⟨g1t, g1g, g1l, g1w⟩ := f h1
        by_cases c7 : keyS l (g1.2.1 : Int) [44] = true
        · rw [if_pos c7]
          have hin7 := key_in c7
          have b := e_bd_eExpr hl n (g1.2.1 + 1) (by omega)
          have f := ihE (g1.2.1 + 1) (by omega)
          generalize eExpr l n (g1.2.1 + 1) = g2 at *
          obtain ⟨g2a, g2b, _⟩ := b
          refine yes_bnd fun h2 => ?_
          obtain ⟨g2t, g2g, g2l, g2w⟩ := f h2
          have b := bw_ks l [[41]] (g2.2.1) (by omega)
          generalize ks l [[41]] (g2.2.1) = g3 at *
          obtain ⟨g3a, g3b⟩ := b
          refine yes_bnd fun h3 => ?_
          have m := mk_pair g1t g1g g2t g2g
          exact yes_at ⟨m.1, m.2, by rw [tl_node (by decide), tlL_cons, tlL_cons, tlL_nil]; simp only [List.length_nil]; omega, by rw [wc_node (by decide) (by decide), wcL_cons, wcL_cons, wcL_nil]; omega⟩
        rw [if_neg c7]
        have b := bw_ks l [[41]] (g1.2.1) (by omega)
        generalize ks l [[41]] (g1.2.1) = g2 at *
        obtain ⟨g2a, g2b⟩ := b
        refine yes_bnd fun h2 => ?_
        exact yes_at ⟨g1t, g1g, by omega, by omega⟩
      · rw [if_neg ks0]; exact fun h => absurd (show (6 : Int) = 0 from h) (by decide)
end
end Go.Proofs.YtpplkbcfidpbcaaGreatDoor

/- The laws PexprForms, PexprBack. -/
namespace Go.Proofs.YtpplkbcfidpbcaaGreatDoor
open Go Go.Am Go.Sx
theorem ev_Expr {t : Tr} (h : Fine t) : Ev (fun K => shape_Expr K t) (chk 2 t) := Ev.congr (f := fun _K => _) (Ev.ret (Ev.congr (f := fun _K => _) (ev_chk (f := shape_isExpr) h fun g => (ev_expr t g).1) (fun _ => rfl))) (fun _ => rfl)
/-- written, told, parsed: the same -/
theorem round7 {t : Tr} (hg : Good t) (hw : t.w ≤ 1048576) (hs : sizeT t ≤ 8192) (hd : deepT t ≤ 60) (hl : tl t ≤ 16392) (hc : wc t ≤ 1000) (hi : isT 2 t = true) :
    ∃ s toks, Ev (fun K => pexpr_write K t 0) s ∧ Ev (fun K => lexer_Lex K s) (toks, 0, 0) ∧ Ev (fun K => pexpr_Expr K toks 0) (t, ((toks.length : Nat) : Int), 0) := by
  obtain ⟨w, b⟩ := (bx_all t hg hw hs hd (by omega)).1 hi
  have h1 := b.len
  have h2 := b.cnt
  obtain ⟨toks, q1, q0, q2⟩ := ev_lex b.ne b.tk (by omega)
  have hlen : toks.length = w.length := by rw [← q1, List.length_map]
  refine ⟨jn w, toks, b.pw.zero, q2, ?_⟩
  have e := b.a0 toks 0 (8 * toks.length + 6) [] q0 (by unfold At; rw [List.drop_zero, q1, List.append_nil]) st_nil (by omega)
  have p := expr_p (l := toks) (by omega) (i := 0) (n := 8 * toks.length + 6) (by omega) (by omega)
  rw [e] at p
  have e1 : ansE (t, 0 + w.length, 0) = (t, ((toks.length : Nat) : Int), 0) := by unfold ansE; rw [if_pos rfl, hlen, Nat.zero_add]
  rw [e1] at p
  exact p
/-- The plain law PexprForms. -/
theorem law07_PexprForms_true (a : List Token) (i : Int) : ∃ K, law07_PexprForms K a i = some true := by
  refine Ev.get (f := fun K => law07_PexprForms K a i) ?_
  refine Ev.congr (f := fun K => _) ?_ (fun k => by rw [law07_PexprForms])
  have ha := fewT_len a
  refine Ev.bind (ev_Few a) ?_
  generalize fewT a = p at *
  by_cases hi : 0 ≤ i ∧ i ≤ (p.length : Int)
  · obtain ⟨m, rfl⟩ : ∃ m : Nat, i = m := ⟨i.toNat, by omega⟩
    have hm : m ≤ p.length := by omega
    have h1 := expr_p (l := p) (by omega) (i := m) (n := 8 * (p.length - m) + 6) hm (Nat.le_refl _)
    have hf := (e_fm (l := p) (by omega) (8 * (p.length - m) + 6) m hm).1
    have hb := e_bd_eExpr (l := p) (by omega) (8 * (p.length - m) + 6) m hm
    generalize eExpr p (8 * (p.length - m) + 6) m = g at *
    obtain ⟨t, j, e⟩ := g
    obtain ⟨b1, b2, b3⟩ := hb
    simp only at b1 b2 b3
    by_cases he : e = 0
    · subst he
      have e1 : ansE (t, j, 0) = (t, ((j : Nat) : Int), 0) := by unfold ansE; rw [if_pos rfl]
      rw [e1] at h1
      refine Ev.bind h1 ?_
      obtain ⟨i1, i2⟩ := b3 rfl
      obtain ⟨f1, f2, f3, f4⟩ := hf rfl
      simp only at f1 f2 f3 f4
      refine Ev.nF rfl ?_
      have hfine : Fine t := ⟨by omega, fun _ => f2⟩
      have hfull := good_full t f2
      have hsz := sizeT_le t
      have hty := ev_Expr hfine
      have hchk : chk 2 t = if 60 < deepT t then 7 else 0 := by
        have e : packT t = (cellsT t 0, 0) := by unfold packT; rw [if_pos hfull, if_neg (by omega)]
        unfold chk
        rw [e, if_pos rfl, f1, if_pos rfl]
      rw [hchk] at hty
      by_cases hd : 60 < deepT t
      · rw [if_pos hd] at hty
        refine Ev.bind hty ?_
        refine Ev.dT rfl ?_
        exact Ev.ret ev_works7
      · rw [if_neg hd] at hty
        refine Ev.bind hty ?_
        refine Ev.dF (by decide) ?_
        obtain ⟨s, toks, q1, q2, q3⟩ := round7 f2 (by omega) (by omega) (by omega) (by omega) (by omega) f1
        refine Ev.bind (a := (s, (0 : Int))) (Ev.congr (f := fun K => _) (Ev.bind hty (Ev.nF rfl (Ev.bind q1 Ev.pure))) (fun k => by rw [pexpr_Write])) ?_
        show Ev (fun K => law07_PexprForms_c0 K ((m : Nat) : Int) t ((j : Nat) : Int) 0 s 0) true
        refine Ev.step (fun k => by rw [law07_PexprForms_c0]) ?_
        refine Ev.bind q2 ?_
        refine Ev.bind q3 ?_
        refine Ev.dT rfl ?_
        refine Ev.dT (by omega) ?_
        refine Ev.dT rfl ?_
        refine Ev.dT rfl ?_
        refine Ev.dT rfl ?_
        refine Ev.bind (ev_asame t (by omega)) ?_
        refine Ev.isT rfl ?_
        exact Ev.ret ev_works7
    · have e1 : ansE (t, j, e) = (.nil, ((j : Nat) : Int), e) := by unfold ansE; rw [if_neg he]
      rw [e1] at h1
      refine Ev.bind h1 ?_
      refine Ev.nT he ?_
      refine Ev.dT (by omega) ?_
      refine Ev.dT (by omega) ?_
      exact Ev.ret ev_works7
  · refine Ev.bind (expr_no (l := p) (by omega) hi) ?_
    refine Ev.nT (by decide) ?_
    refine Ev.dT (by decide) ?_
    refine Ev.dT (by omega) ?_
    exact Ev.ret ev_works7
/-- how long the text, how many the words of a tree are that has a form -/
def Lt (t : Tr) : Prop := tl t ≤ 200 * t.w ∧ wc t ≤ 8 * t.w
theorem lt_ty {t : Tr} (h : isT 1 t = true) : Lt t := ⟨by rw [tl_ty h]; omega, by rw [wc_ty h]; omega⟩
theorem lt_arms : ∀ r : List Tr, (∀ y ∈ r, isT 9 y = true) → (∀ y ∈ r, ∀ e ∈ (match y with | .nil => [] | .node _ _ _ _ l => l), isT 2 e = true → Lt e) → tlL r ≤ 200 * wL r ∧ wcL r ≤ 8 * wL r
  | [], _, _ => by rw [tlL_nil, wcL_nil]; omega
  | y :: r, h, hk => by
    obtain ⟨i1, i2⟩ := lt_arms r (fun x hx => h x (List.mem_cons_of_mem _ hx)) (fun x hx => hk x (List.mem_cons_of_mem _ hx))
    obtain ⟨c, x, e, rfl, hc, hx, he⟩ := arm_of (h _ List.mem_cons_self)
    obtain ⟨l1, l2⟩ := hk _ List.mem_cons_self e (by simp) he
    have := ck_len hc
    have := ck_len hx
    rw [tlL_cons, wcL_cons, wL_cons, tl_node (by decide), wc_node (by decide) (by decide), w_node, tlL_cons, tlL_nil, wcL_cons, wcL_nil, wL_cons, wL_nil]
    omega
theorem lt_all : ∀ t : Tr, (isT 2 t = true → Lt t) ∧ (∀ y ∈ (match t with | .nil => [] | .node _ _ _ _ l => l), isT 2 y = true → Lt y) := Tr.ind
  ⟨fun h => (by rw [isT_nil] at h; cases h), fun y hy => (by simp at hy)⟩
  fun k n nm mk ks ih => by
    have kid : ∀ y ∈ ks, isT 2 y = true → Lt y := fun y hy => (ih y hy).1
    have kid2 : ∀ y ∈ ks, ∀ e ∈ (match y with | .nil => [] | .node _ _ _ _ l => l), isT 2 e = true → Lt e := fun y hy => (ih y hy).2
    refine ⟨fun hi => ?_, kid⟩
    have form := ex_of hi
    clear hi ih
    cases form with
    | int n h => exact ⟨by rw [tl_node (by decide), tlL_nil, w_node, wL_nil]; simp, by rw [wc_leaf (by decide) (by decide), wcL_nil, w_node, wL_nil]; simp⟩
    | bool n h => exact ⟨by rw [tl_node (by decide), tlL_nil, w_node, wL_nil]; simp, by rw [wc_leaf (by decide) (by decide), wcL_nil, w_node, wL_nil]; simp⟩
    | unit => exact ⟨by rw [tl_node (by decide), tlL_nil, w_node, wL_nil]; simp, by rw [wc_leaf (by decide) (by decide), wcL_nil, w_node, wL_nil]; simp⟩
    | var s h => have := lg_len h; exact ⟨by rw [tl_node (by decide), tlL_nil, w_node, wL_nil]; simp; omega, by rw [wc_leaf (by decide) (by decide), wcL_nil, w_node, wL_nil]; simp⟩
    | lam s t b h ht hb =>
      obtain ⟨t1, t2⟩ := lt_ty ht; obtain ⟨b1, b2⟩ := kid b (by simp) hb; have := ck_len h
      exact ⟨by rw [tl_node (by decide), tlL_cons, tlL_cons, tlL_nil, w_node, wL_cons, wL_cons, wL_nil]; simp; omega, by rw [wc_node (by decide) (by decide), wcL_cons, wcL_cons, wcL_nil, w_node, wL_cons, wL_cons, wL_nil]; omega⟩
    | app a b ha hb =>
      obtain ⟨a1, a2⟩ := kid a (by simp) ha; obtain ⟨b1, b2⟩ := kid b (by simp) hb
      exact ⟨by rw [tl_node (by decide), tlL_cons, tlL_cons, tlL_nil, w_node, wL_cons, wL_cons, wL_nil]; simp; omega, by rw [wc_node (by decide) (by decide), wcL_cons, wcL_cons, wcL_nil, w_node, wL_cons, wL_cons, wL_nil]; omega⟩
    | pair a b ha hb =>
      obtain ⟨a1, a2⟩ := kid a (by simp) ha; obtain ⟨b1, b2⟩ := kid b (by simp) hb
      exact ⟨by rw [tl_node (by decide), tlL_cons, tlL_cons, tlL_nil, w_node, wL_cons, wL_cons, wL_nil]; simp; omega, by rw [wc_node (by decide) (by decide), wcL_cons, wcL_cons, wcL_nil, w_node, wL_cons, wL_cons, wL_nil]; omega⟩
    | fst a ha =>
      obtain ⟨a1, a2⟩ := kid a (by simp) ha
      exact ⟨by rw [tl_node (by decide), tlL_cons, tlL_nil, w_node, wL_cons, wL_nil]; simp; omega, by rw [wc_node (by decide) (by decide), wcL_cons, wcL_nil, w_node, wL_cons, wL_nil]; omega⟩
    | snd a ha =>
      obtain ⟨a1, a2⟩ := kid a (by simp) ha
      exact ⟨by rw [tl_node (by decide), tlL_cons, tlL_nil, w_node, wL_cons, wL_nil]; simp; omega, by rw [wc_node (by decide) (by decide), wcL_cons, wcL_nil, w_node, wL_cons, wL_nil]; omega⟩
    | let_ s a b h ha hb =>
      obtain ⟨a1, a2⟩ := kid a (by simp) ha; obtain ⟨b1, b2⟩ := kid b (by simp) hb; have := ck_len h
      exact ⟨by rw [tl_node (by decide), tlL_cons, tlL_cons, tlL_nil, w_node, wL_cons, wL_cons, wL_nil]; simp; omega, by rw [wc_node (by decide) (by decide), wcL_cons, wcL_cons, wcL_nil, w_node, wL_cons, wL_cons, wL_nil]; omega⟩
    | if_ a b c ha hb hc =>
      obtain ⟨a1, a2⟩ := kid a (by simp) ha; obtain ⟨b1, b2⟩ := kid b (by simp) hb; obtain ⟨c1, c2⟩ := kid c (by simp) hc
      exact ⟨by rw [tl_node (by decide), tlL_cons, tlL_cons, tlL_cons, tlL_nil, w_node, wL_cons, wL_cons, wL_cons, wL_nil]; simp; omega, by rw [wc_node (by decide) (by decide), wcL_cons, wcL_cons, wcL_cons, wcL_nil, w_node, wL_cons, wL_cons, wL_cons, wL_nil]; omega⟩
    | op n a b h ha hb =>
      obtain ⟨a1, a2⟩ := kid a (by simp) ha; obtain ⟨b1, b2⟩ := kid b (by simp) hb
      exact ⟨by rw [tl_node (by decide), tlL_cons, tlL_cons, tlL_nil, w_node, wL_cons, wL_cons, wL_nil]; simp; omega, by rw [wc_node (by decide) (by decide), wcL_cons, wcL_cons, wcL_nil, w_node, wL_cons, wL_cons, wL_nil]; omega⟩
    | case_ a r ha h0 hr =>
      obtain ⟨a1, a2⟩ := kid a (by simp) ha
      obtain ⟨r1, r2⟩ := lt_arms r hr fun y hy => kid2 y (List.mem_cons_of_mem _ hy)
      exact ⟨by rw [tl_node (by decide), tlL_cons, w_node, wL_cons]; simp only [List.length_nil]; omega, by rw [wc_node (by decide) (by decide), wcL_cons, w_node, wL_cons]; omega⟩
    | fold_ a t r ha ht h0 hr =>
      obtain ⟨a1, a2⟩ := kid a (by simp) ha; obtain ⟨t1, t2⟩ := lt_ty ht
      obtain ⟨r1, r2⟩ := lt_arms r hr fun y hy => kid2 y (List.mem_cons_of_mem _ (List.mem_cons_of_mem _ hy))
      exact ⟨by rw [tl_node (by decide), tlL_cons, tlL_cons, w_node, wL_cons, wL_cons]; simp only [List.length_nil]; omega, by rw [wc_node (by decide) (by decide), wcL_cons, wcL_cons, w_node, wL_cons, wL_cons]; omega⟩
/-- The plain law PexprBack. -/
theorem law07_PexprBack_true (l : List Cell) : ∃ K, law07_PexprBack K l = some true := by
  refine Ev.get (f := fun K => law07_PexprBack K l) ?_
  refine Ev.congr (f := fun K => _) ?_ (fun k => by rw [law07_PexprBack])
  refine Ev.bind (ev_few l) ?_
  refine Ev.bind (ev_open (kids_few l)) ?_
  have hf := fine_open l
  have hlen : (fewL l).length ≤ 80 := by simp [fewL]; omega
  have hc := openT_cases (fewL l)
  generalize (openT (fewL l)) = o at *
  obtain ⟨t, e⟩ := o
  simp only at hf hc
  have hty := ev_Expr hf
  by_cases h0 : chk 2 t = 0
  · have hi : isT 2 t = true ∧ fullT t = true ∧ deepT t ≤ 60 := by
      unfold chk at h0
      by_cases h1 : (packT t).2 = 0
      · rw [if_pos h1] at h0
        by_cases h2 : 60 < deepT t
        · rw [if_pos h2] at h0; cases h0
        · rw [if_neg h2] at h0
          cases hi : isT 2 t with
          | false => rw [hi] at h0; cases h0
          | true => exact ⟨rfl, pack_full h1, by omega⟩
      · rw [if_neg h1] at h0; exact absurd h0 h1
    rcases hc with ⟨rfl, _⟩ | ⟨he, _, _, _, _, hw, _⟩
    · rw [isT_nil] at hi; cases hi.1
    · subst he
      have hsz := sizeT_le t
      obtain ⟨l1, l2⟩ := (lt_all t).1 hi.1
      obtain ⟨s, toks, q1, q2, q3⟩ := round7 (hf.2 hi.2.1) (by omega) (by omega) hi.2.2 (by omega) (by omega) hi.1
      rw [h0] at hty
      refine Ev.bind (a := (s, (0 : Int))) (Ev.congr (f := fun K => _) (Ev.bind hty (Ev.nF rfl (Ev.bind q1 Ev.pure))) (fun k => by rw [pexpr_Write])) ?_
      refine Ev.nF rfl ?_
      refine Ev.nF rfl ?_
      refine Ev.bind q2 ?_
      refine Ev.nF rfl ?_
      show Ev (fun K => law07_PexprBack_c0 K t toks) true
      refine Ev.step (fun k => by rw [law07_PexprBack_c0]) ?_
      refine Ev.bind q3 ?_
      refine Ev.dT rfl ?_
      refine Ev.dT rfl ?_
      refine Ev.bind (ev_asame t (by omega)) ?_
      refine Ev.isT rfl ?_
      exact Ev.ret ev_works7
  · refine Ev.bind (a := (([] : List UInt8), chk 2 t)) (Ev.congr (f := fun K => _) (Ev.bind hty (Ev.nT h0 Ev.pure)) (fun k => by rw [pexpr_Write])) ?_
    refine Ev.n (fun _ => ?_) (fun _ => ?_)
    · refine Ev.dT rfl ?_
      exact Ev.ret ev_works7
    · refine Ev.nT h0 ?_
      refine Ev.dT rfl ?_
      exact Ev.ret ev_works7
end Go.Proofs.YtpplkbcfidpbcaaGreatDoor

