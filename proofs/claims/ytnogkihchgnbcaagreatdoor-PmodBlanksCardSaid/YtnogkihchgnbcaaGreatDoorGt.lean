/- Joined texts: B1, B2, B3. -/
import Derived.Test.YtnogkihchgnbcaaGreatDoorGn
import Derived.Test.YtnogkihchgnbcaaGreatDoorGl
import Derived.Lib.Join
import Derived.Test.YtnogkihchgnbcaaGreatDoorGo
import Derived.Test.YtnogkihchgnbcaaGreatDoorGq
/- Lists of tokens that differ in their places alone are parsed alike. -/
namespace Go.Proofs.YtnogkihchgnbcaaGreatDoor
open Go Go.Am Go.Sx
/-- the same tokens, at other places -/
structure Sm (l l' : List Token) : Prop where
  len : l'.length = l.length
  tk : ∀ i : Int, (tokAt l' i).map (fun k => (k.1, k.2.1, k.2.2.1)) = (tokAt l i).map (fun k => (k.1, k.2.1, k.2.2.1))
section
variable {l l' : List Token} (h : Sm l l')
include h
theorem Sm.cases (i : Int) : (tokAt l' i = none ∧ tokAt l i = none) ∨ ∃ k' k, tokAt l' i = some k' ∧ tokAt l i = some k ∧ k'.1 = k.1 ∧ k'.2.1 = k.2.1 ∧ k'.2.2.1 = k.2.2.1 := by
  have e := h.tk i
  cases h1 : tokAt l' i with
  | none =>
    cases h2 : tokAt l i with
    | none => exact .inl ⟨rfl, rfl⟩
    | some k => rw [h1, h2] at e; cases e
  | some k' =>
    cases h2 : tokAt l i with
    | none => rw [h1, h2] at e; cases e
    | some k =>
      rw [h1, h2] at e
      simp only [Option.map_some, Option.some.injEq, Prod.mk.injEq] at e
      exact .inr ⟨k', k, rfl, rfl, e.1, e.2.1, e.2.2⟩
theorem Sm.key (i : Int) (t : List UInt8) : keyS l' i t = keyS l i t := by
  unfold keyS
  rcases h.cases i with ⟨h1, h2⟩ | ⟨k', k, h1, h2, e1, e2, e3⟩
  · rw [h1, h2]
  · rw [h1, h2]; simp only [e1, e2]
theorem Sm.name (i : Int) : nameS l' i = nameS l i := by
  unfold nameS
  rcases h.cases i with ⟨h1, h2⟩ | ⟨k', k, h1, h2, e1, e2, e3⟩
  · rw [h1, h2]
  · rw [h1, h2]; simp only [e1, e2]
theorem Sm.long (i : Int) : longS l' i = longS l i := by
  unfold longS
  rcases h.cases i with ⟨h1, h2⟩ | ⟨k', k, h1, h2, e1, e2, e3⟩
  · rw [h1, h2]
  · rw [h1, h2]; simp only [e1, e2]
theorem Sm.start (i : Nat) : stS l' i = stS l i := by
  unfold stS
  rcases h.cases i with ⟨h1, h2⟩ | ⟨k', k, h1, h2, e1, e2, e3⟩
  · rw [h1, h2]
  · rw [h1, h2]; simp only [e1, e2, e3]
theorem Sm.ks : ∀ (t : List (List UInt8)) (i : Nat), Go.Proofs.YtnogkihchgnbcaaGreatDoor.ks l' t i = Go.Proofs.YtnogkihchgnbcaaGreatDoor.ks l t i
  | [], i => by rw [Go.Proofs.YtnogkihchgnbcaaGreatDoor.ks, Go.Proofs.YtnogkihchgnbcaaGreatDoor.ks]
  | t :: r, i => by rw [Go.Proofs.YtnogkihchgnbcaaGreatDoor.ks, Go.Proofs.YtnogkihchgnbcaaGreatDoor.ks, h.key, Sm.ks r]
theorem Sm.nm (i : Nat) : nmR l' i = nmR l i := by unfold nmR; rw [h.name]
theorem Sm.lg (i : Nat) : lgR l' i = lgR l i := by unfold lgR; rw [h.long]
theorem Sm.any (i : Nat) (t : List (List UInt8)) : anyK l' i t = anyK l i t := by unfold anyK; simp only [h.key]
theorem Sm.ty_all : ∀ n, (∀ i, typS l' n i = typS l n i) ∧ (∀ i, prodS l' n i = prodS l n i) ∧ (∀ i, atomS l' n i = atomS l n i) ∧ (∀ i out, consS l' n i out = consS l n i out) := by
  intro n
  induction n with
  | zero =>
    refine ⟨fun i => ?_, fun i => ?_, fun i => ?_, fun i out => ?_⟩
    · rw [typS, typS]
    · rw [prodS, prodS]
    · rw [atomS, atomS]
    · rw [consS, consS]
  | succ n ih =>
    obtain ⟨h1, h2, h3, h4⟩ := ih
    refine ⟨fun i => ?_, fun i => ?_, fun i => ?_, fun i out => ?_⟩
    · rw [typS, typS]; simp only [h1, h2, h.key]
    · rw [prodS, prodS]; simp only [h2, h3, h.key]
    · rw [atomS, atomS]; simp only [h1, h4, h.key, h.name, h.long]
    · rw [consS, consS]; simp only [h1, h4, h.key, h.name]
theorem Sm.ty (i : Nat) : tyR l' i = tyR l i := by unfold tyR; rw [h.len]; exact (h.ty_all _).1 i
theorem Sm.cn (i : Nat) : cnR l' i = cnR l i := by unfold cnR; rw [h.len]; exact (h.ty_all _).2.2.2 i []
theorem Sm.e_all : ∀ n, (∀ i, eExpr l' n i = eExpr l n i) ∧ (∀ out i, eArms l' n out i = eArms l n out i) ∧ (∀ i, eCmp l' n i = eCmp l n i) ∧ (∀ i, eSum l' n i = eSum l n i) ∧ (∀ a i, eSumL l' n a i = eSumL l n a i) ∧
    (∀ i, eTerm l' n i = eTerm l n i) ∧ (∀ a i, eTermL l' n a i = eTermL l n a i) ∧ (∀ i, eApp l' n i = eApp l n i) ∧ (∀ a i, eAppL l' n a i = eAppL l n a i) ∧ (∀ i, eAtom l' n i = eAtom l n i) := by
  intro n
  induction n with
  | zero =>
    refine ⟨fun i => ?_, fun out i => ?_, fun i => ?_, fun i => ?_, fun a i => ?_, fun i => ?_, fun a i => ?_, fun i => ?_, fun a i => ?_, fun i => ?_⟩
    · rw [eExpr, eExpr]
    · rw [eArms, eArms]
    · rw [eCmp, eCmp]
    · rw [eSum, eSum]
    · rw [eSumL, eSumL]
    · rw [eTerm, eTerm]
    · rw [eTermL, eTermL]
    · rw [eApp, eApp]
    · rw [eAppL, eAppL]
    · rw [eAtom, eAtom]
  | succ n ih =>
    obtain ⟨h1, h2, h3, h4, h5, h6, h7, h8, h9, h10⟩ := ih
    refine ⟨fun i => ?_, fun out i => ?_, fun i => ?_, fun i => ?_, fun a i => ?_, fun i => ?_, fun a i => ?_, fun i => ?_, fun a i => ?_, fun i => ?_⟩
    · rw [eExpr, eExpr]; simp only [h1, h2, h3, h.key, h.ks, h.nm, h.ty]
    · rw [eArms, eArms]; simp only [h1, h2, h.key, h.ks, h.nm]
    · rw [eCmp, eCmp]; simp only [h4, h.key]
    · rw [eSum, eSum]; simp only [h5, h6]
    · rw [eSumL, eSumL]; simp only [h5, h6, h.key]
    · rw [eTerm, eTerm]; simp only [h7, h8]
    · rw [eTermL, eTermL]; simp only [h7, h8, h.key]
    · rw [eApp, eApp]; simp only [h9, h10]
    · rw [eAppL, eAppL]; simp only [h9, h10, h.start]
    · rw [eAtom, eAtom, h.start]
      rcases h.cases (i : Int) with ⟨e1, e2⟩ | ⟨k', k, e1, e2, e3, e4, e5⟩
      · rw [e1, e2]
      · rw [e1, e2]; simp only [e3, e4, e5, h1, h10, h.key, h.ks]
theorem Sm.ex (i : Nat) : exR l' i = exR l i := by unfold exR; rw [h.len]; exact (h.e_all _).1 i
theorem Sm.m_all : ∀ n, (∀ i, mMod l' n i = mMod l n i) ∧ (∀ m i, mModL l' n m i = mModL l n m i) ∧ (∀ i, mPrim l' n i = mPrim l n i) ∧ (∀ i, mSig l' n i = mSig l n i) ∧ (∀ m i, mSigL l' n m i = mSigL l n m i) ∧
    (∀ i, mBody l' n i = mBody l n i) ∧ (∀ out i, mSpecs l' n out i = mSpecs l n out i) ∧ (∀ i, mSpec l' n i = mSpec l n i) ∧ (∀ top out i, mDecls l' n top out i = mDecls l n top out i) ∧ (∀ top i, mDecl l' n top i = mDecl l n top i) := by
  intro n
  induction n with
  | zero =>
    refine ⟨fun i => ?_, fun m i => ?_, fun i => ?_, fun i => ?_, fun m i => ?_, fun i => ?_, fun out i => ?_, fun i => ?_, fun top out i => ?_, fun top i => ?_⟩
    · rw [mMod, mMod]
    · rw [mModL, mModL]
    · rw [mPrim, mPrim]
    · rw [mSig, mSig]
    · rw [mSigL, mSigL]
    · rw [mBody, mBody]
    · rw [mSpecs, mSpecs]
    · rw [mSpec, mSpec]
    · rw [mDecls, mDecls]
    · rw [mDecl, mDecl]
  | succ n ih =>
    obtain ⟨h1, h2, h3, h4, h5, h6, h7, h8, h9, h10⟩ := ih
    refine ⟨fun i => ?_, fun m i => ?_, fun i => ?_, fun i => ?_, fun m i => ?_, fun i => ?_, fun out i => ?_, fun i => ?_, fun top out i => ?_, fun top i => ?_⟩
    · rw [mMod, mMod]; simp only [h2, h3]
    · rw [mModL, mModL]; simp only [h2, h4, h.key]
    · rw [mPrim, mPrim]; simp only [h1, h9, h.key, h.ks, h.name, h.lg]
    · rw [mSig, mSig]; simp only [h5, h6]
    · rw [mSigL, mSigL]; simp only [h5, h.key, h.ks, h.lg, h.ty]
    · rw [mBody, mBody]; simp only [h7, h.key, h.ks, h.nm]
    · rw [mSpecs, mSpecs]; simp only [h7, h8, h.any]
    · rw [mSpec, mSpec]; simp only [h4, h.key, h.ks, h.nm, h.lg, h.ty, h.cn, bhd]
    · rw [mDecls, mDecls]; simp only [h9, h10, h.any]
    · rw [mDecl, mDecl]; simp only [h1, h4, h.key, h.ks, h.nm, h.lg, h.ty, h.cn, h.ex, bhd]
end
end Go.Proofs.YtnogkihchgnbcaaGreatDoor

/- The lexer on words with blanks and comments between; what a text's tokens are as words. -/
namespace Go.Proofs.YtnogkihchgnbcaaGreatDoor
open Go Go.Am Go.Sx
theorem fv_lt : ∀ (d : List UInt8) (v : Nat), Dg d → fv (v : Int) d < (((v + 1) * 10 ^ d.length : Nat) : Int)
  | [], v, _ => by show (v : Int) < _; simp; omega
  | b :: d, v, h => by
    have hb := h b List.mem_cons_self
    have hd : Dg d := fun c hc => h c (List.mem_cons_of_mem _ hc)
    have e : fv (v : Int) (b :: d) = fv (((10 * v + (b.toNat - 48) : Nat)) : Int) d := by
      show fv (10 * (v : Int) + ((b.toNat : Int) - 48)) d = _
      congr 1
      omega
    rw [e]
    have := fv_lt d (10 * v + (b.toNat - 48)) hd
    have h2 : (10 * v + (b.toNat - 48) + 1) * 10 ^ d.length ≤ (v + 1) * 10 * 10 ^ d.length := Nat.mul_le_mul_right _ (by omega)
    have h3 : (v + 1) * 10 * 10 ^ d.length = (v + 1) * 10 ^ (b :: d).length := by rw [List.length_cons, Nat.pow_succ, Nat.mul_assoc, Nat.mul_comm 10]
    omega
theorem dig_le : ∀ (k n : Nat), n < 10 ^ (k + 1) → (dig n).length ≤ k + 1 := by
  intro k
  induction k with
  | zero => intro n h; rw [dig_small (by omega)]; simp
  | succ k ih =>
    intro n h
    by_cases h10 : n < 10
    · rw [dig_small h10]; simp
    · rw [dig_big h10]
      have := ih (n / 10) (by rw [Nat.pow_succ] at h; omega)
      simp only [List.length_append, List.length_cons, List.length_nil]
      omega
theorem num_len {d : List UInt8} (hd : Dg d) (h0 : d ≠ []) (f : Nat) : (numS (sgnI f (fv 0 d))).length ≤ f + d.length := by
  have hg := fv_ge d 0 (by omega) hd
  have hl := fv_lt d 0 hd
  obtain ⟨m, hm⟩ : ∃ m, d.length = m + 1 := ⟨d.length - 1, by cases d with | nil => exact absurd rfl h0 | cons => simp⟩
  obtain ⟨v, hv⟩ : ∃ v : Nat, fv 0 d = (v : Int) := ⟨(fv 0 d).toNat, by omega⟩
  have hl : v < 10 ^ (m + 1) := by
    rw [hm] at hl
    have e : fv ((0 : Nat) : Int) d = (v : Int) := hv
    rw [e] at hl
    rw [Nat.zero_add, Nat.one_mul] at hl
    omega
  have hk := dig_le m v hl
  rw [hv, hm]
  unfold sgnI numS
  by_cases h1 : (f : Int) = 1
  · rw [if_pos h1]
    have e : (-(v : Int)).natAbs = v := by omega
    rw [e, List.length_append]
    by_cases h2 : -(v : Int) < 0
    · rw [if_pos h2]; simp only [List.length_cons, List.length_nil]; omega
    · rw [if_neg h2]; simp only [List.length_nil]; omega
  · rw [if_neg h1, if_neg (by omega : ¬ (v : Int) < 0)]
    have e : ((v : Int)).natAbs = v := by omega
    rw [e, List.nil_append]
    omega
/-- a token's text is no longer than what it stands for -/
theorem tok_len {s : List UInt8} {k v : Int} {x : List UInt8} {n : Nat} (h0 : s ≠ []) (e : tokS s = (k, x, v, 0, (n : Int), true)) : x.length ≤ n := by
  have hnum : ∀ f, f ≤ s.length → nuS s f = (k, x, v, 0, (n : Int), true) → x.length ≤ n := fun f hf h => by
    have hdg := sp_dg (s.drop f)
    have hle := sp_le (p := dgR) (s.drop f)
    unfold nuS at h
    generalize sp dgR (s.drop f) = q at *
    by_cases hc : q = 0 ∨ 0 < sp inn (s.drop (f + q)) ∨ 1073741824 < fv 0 ((s.drop f).take q)
    · rw [if_pos hc] at h
      exact absurd (show false = true from congrArg (fun r : TokR => r.2.2.2.2.2) h) (by decide)
    · rw [if_neg hc] at h
      simp only [Prod.mk.injEq] at h
      have hlen : ((s.drop f).take q).length = q := by rw [List.length_take]; omega
      have := num_len hdg (fun e => by rw [e] at hlen; simp at hlen; omega) f
      rw [hlen] at this
      rw [← h.2.1]
      omega
  unfold tokS at e
  by_cases c1 : cls (((dc s).1 : Nat) : Int) = 1
  · rw [if_pos c1] at e
    unfold lnS at e
    by_cases hw : s.take (sp inn s) ∈ wrds ∧ (s.drop (sp inn s)).head? ≠ some 46
    · rw [if_pos hw] at e
      simp only [Prod.mk.injEq] at e
      rw [← e.2.1, List.length_take]; omega
    · rw [if_neg hw] at e
      simp only [Prod.mk.injEq] at e
      rw [← e.2.1, List.length_take]; omega
  rw [if_neg c1] at e
  by_cases c2 : cls (((dc s).1 : Nat) : Int) = 2
  · rw [if_pos c2] at e; exact hnum 0 (Nat.zero_le _) e
  rw [if_neg c2] at e
  by_cases c3 : s.head? = some 126
  · rw [if_pos c3] at e
    exact hnum 1 (by cases s with | nil => exact absurd rfl h0 | cons => simp) e
  rw [if_neg c3] at e
  obtain ⟨y, h1, h2, h3⟩ := fnd_some (l := sgns) (s := s) (by rw [e])
  rw [h3] at e
  simp only [Prod.mk.injEq] at e
  rw [← e.2.1]
  omega
/-- bytes of all texts of tokens -/
def sumT (l : List Token) : Nat := (l.map fun t => t.2.1.length).sum
theorem lxS_sum : ∀ (m : Nat) (s : List UInt8) (i : Nat) (acc l : List Token), s.length ≤ m → lxS s i acc = (acc ++ l, 0, 0) → sumT l ≤ s.length := by
  have nil : ∀ (i : Nat) (acc l : List Token), lxS [] i acc = (acc ++ l, 0, 0) → sumT l ≤ ([] : List UInt8).length := fun i acc l e => by
    rw [lxS_nil] at e
    have e : acc = acc ++ l := congrArg (·.1) e
    have : l = [] := List.self_eq_append_right.1 e
    rw [this]; exact Nat.le_refl _
  intro m
  induction m with
  | zero =>
    intro s i acc l h e
    obtain rfl := List.length_eq_zero_iff.1 (Nat.le_zero.1 h)
    exact nil i acc l e
  | succ m ih =>
    intro s i acc l h e
    by_cases h0 : s = []
    · subst h0; exact nil i acc l e
    have h1 : 1 ≤ s.length := by cases s with | nil => exact absurd rfl h0 | cons => simp
    by_cases c1 : cls (((dc s).1 : Nat) : Int) = 3
    · rw [lxS_bl h0 i acc c1] at e
      have := dc_width s
      have := ih _ _ acc l (by rw [List.length_drop]; omega) e
      rw [List.length_drop] at this
      omega
    cases c2 : List.isPrefixOf [40, 42] s with
    | true =>
      rw [lxS_cm h0 c1 i acc c2] at e
      by_cases c3 : cmt s = 0
      · rw [if_pos c3] at e; exact absurd (show (5 : Int) = 0 from congrArg (·.2.2) e) (by decide)
      · rw [if_neg c3] at e
        have := ih _ _ acc l (by rw [List.length_drop]; omega) e
        rw [List.length_drop] at this
        omega
    | false =>
      cases c4 : (tokS s).2.2.2.2.2 with
      | false => rw [lxS_no h0 c1 i acc c2 c4] at e; exact absurd (show (5 : Int) = 0 from congrArg (·.2.2) e) (by decide)
      | true =>
        obtain ⟨q, x, v, n, e4, h4, h5, h6⟩ := tok_ok h0 c4
        rw [lxS_tk h0 c1 i acc c2 e4] at e
        have ht := tok_len h0 e4
        rcases lxS_bd _ (s.drop n) (i + n) (acc ++ [(q, x, v, (i : Int))]) (Nat.le_refl _) with ⟨_, _, l2, a, _⟩ | ⟨j, a, _⟩
        · rw [e] at a
          have a : acc ++ l = acc ++ [(q, x, v, (i : Int))] ++ l2 := a
          rw [List.append_assoc] at a
          obtain rfl := List.append_cancel_left a
          have e' : lxS (s.drop n) (i + n) (acc ++ [(q, x, v, (i : Int))]) = (acc ++ [(q, x, v, (i : Int))] ++ l2, 0, 0) := by rw [e]; simp
          have := ih (s.drop n) (i + n) (acc ++ [(q, x, v, (i : Int))]) l2 (by rw [List.length_drop]; omega) e'
          rw [List.length_drop] at this
          show x.length + sumT l2 ≤ s.length
          omega
        · rw [e] at a; exact absurd (show (0 : Int) = 5 from congrArg (·.2.2) a) (by decide)
theorem wrds_tk : ∀ w ∈ wrds, w ≠ [] ∧ (∀ b ∈ w, 97 ≤ b.toNat ∧ b.toNat < 123) ∧ w.length ≤ 100 := by decide
/-- a token of a text is a word that the lexer tells as it is -/
theorem tkg_tk {x : Wd} {v : Int} (h : TkG x v) : Tk x ∧ v = nOf x := by
  obtain ⟨k, w⟩ := x
  rcases h with ⟨h1, h2, h3⟩ | ⟨h1, h2, h3⟩ | ⟨h1, h2, h3, h4⟩
  · simp only at h1 h2
    subst h1 h3
    refine ⟨?_, (nOf_ne (show (3 : Int) ≠ 2 by decide)).symm⟩
    rcases h2 with h2 | h2
    · obtain ⟨a, b, c⟩ := wrds_tk w h2
      exact tk_key h2 a b c
    · have sg : ∀ {b : UInt8} {w : List UInt8}, (b.toNat < 127 ∧ 33 ≤ b.toNat ∧ b.toNat ≠ 126 ∧ cls ((b.toNat : Nat) : Int) = 0) → (∀ c ∈ w, 32 ≤ c.toNat ∧ c.toNat < 127) → w.length ≤ 10 →
        (fnd sgns (b :: w) = (3, b :: w, 0, 0, (((b :: w).length : Nat) : Int), true) ∧ List.isPrefixOf [40, 42] (b :: w) = false) →
        (∀ t, fnd sgns (b :: w ++ 32 :: t) = (3, b :: w, 0, 0, (((b :: w).length : Nat) : Int), true) ∧ List.isPrefixOf [40, 42] (b :: w ++ 32 :: t) = false) → Tk (3, b :: w) := fun h1 h2 h3 h4 h5 =>
        tk_sign h1 h2 h3 fun tail ht => by
          rcases ht with rfl | ⟨t, rfl⟩
          · rw [List.append_nil]; exact h4
          · exact h5 t
      have e : sgns = [[58, 62], [61, 62], [45, 62], [35, 49], [35, 50], [40], [41], [123], [125], [44], [58], [61], [42], [43], [45], [60], [124]] := rfl
      rw [e] at h2
      simp only [List.mem_cons, List.not_mem_nil, or_false] at h2
      rcases h2 with rfl | rfl | rfl | rfl | rfl | rfl | rfl | rfl | rfl | rfl | rfl | rfl | rfl | rfl | rfl | rfl | rfl
      all_goals exact sg (by decide) (by decide) (by decide) ⟨rfl, rfl⟩ fun t => ⟨rfl, rfl⟩
  · simp only at h1 h2
    subst h1 h3
    exact ⟨tk_name h2, (nOf_ne (show (1 : Int) ≠ 2 by decide)).symm⟩
  · simp only at h1 h2
    subst h1 h2
    exact ⟨tk_num ⟨h3, h4⟩, nOf_num.symm⟩
/-- a word at the head, and a blank, or the end, behind it -/
theorem lx_word {x : Wd} (h : Tk x) {t : List UInt8} (ht : Bl t) (hl : t.length ≤ 1000000) (i : Nat) (acc : List Token) : lxS (x.2 ++ t) i acc = lxS t (i + x.2.length) (acc ++ [(x.1, x.2, nOf x, (i : Int))]) := by
  obtain ⟨hne, _, hxl, htk⟩ := h
  obtain ⟨h1, h2, h3⟩ := htk t hl ht
  have h0 : x.2 ++ t ≠ [] := by simp [hne]
  have e := Ev.unique (ev_tok (s := x.2 ++ t) (by simp; omega) h0) h3
  rw [lxS_tk h0 h1 i acc h2 e, List.drop_left]
/-- what stands between -/
def cmB : List UInt8 := [32, 40, 42, 32, 98, 32, 42, 41, 10]
theorem lx_b (c : UInt8) (hc : c.toNat < 128) (h3 : cls ((c.toNat : Nat) : Int) = 3) (t : List UInt8) (i : Nat) (acc : List Token) : lxS (c :: t) i acc = lxS t (i + 1) acc := by
  have e : dc (c :: t) = (c.toNat, 1) := dc_byte hc
  rw [lxS_bl (by simp) i acc (by rw [e]; exact h3), e]
  simp only [List.drop_succ_cons, List.drop_zero]
theorem lx_c {s : List UInt8} (h0 : s ≠ []) (hcl : ¬ cls (((dc s).1 : Nat) : Int) = 3) (hp : List.isPrefixOf [40, 42] s = true) (hc : cmt s = s.length) (t : List UInt8) (i : Nat) (acc : List Token) : lxS (s ++ 10 :: t) i acc = lxS t (i + s.length + 1) acc := by
  have h1 : s.length ≠ 0 := fun e => h0 (List.length_eq_zero_iff.1 e)
  have e := dc_app10 t h0
  rw [lxS_cm (by simp) (by rw [e]; exact hcl) i acc ((pre_app t _ s (by decide)).trans hp), cmt_app t (by omega), hc, if_neg h1, List.drop_left, lx_b 10 (by decide) (by decide)]
theorem lx_sep (t : List UInt8) (i : Nat) (acc : List Token) : lxS (cmB ++ t) i acc = lxS t (i + 9) acc := by
  have e : cmB ++ t = 32 :: ([40, 42, 32, 98, 32, 42, 41] ++ 10 :: t) := rfl
  rw [e, lx_b 32 (by decide) (by decide), lx_c (by decide) (by decide) (by decide) (by decide)]
  rfl
def cmA : List UInt8 := [40, 42, 32, 97, 32, 42, 41, 10]
theorem lx_top (t : List UInt8) (i : Nat) (acc : List Token) : lxS (cmA ++ t) i acc = lxS t (i + 8) acc := by
  have e : cmA ++ t = [40, 42, 32, 97, 32, 42, 41] ++ 10 :: t := rfl
  rw [e, lx_c (by decide) (by decide) (by decide) (by decide)]
  rfl
/-- words with what stands between ahead of each -/
abbrev jb (ws : List Wd) : List UInt8 := Lib.joinTail cmB (ws.map fun x => x.2)
theorem jb_cons (x : Wd) (r : List Wd) : jb (x :: r) = cmB ++ (x.2 ++ jb r) := by
  show (((x :: r).map fun y => y.2).map (cmB ++ ·)).flatten = _
  rw [List.map_cons, List.map_cons, List.flatten_cons, List.append_assoc]; rfl
theorem jb_bl (ws : List Wd) : Bl (jb ws) := by
  cases ws with
  | nil => exact .inl rfl
  | cons x r => rw [jb_cons]; exact .inr ⟨_, rfl⟩
inductive TkM : List Wd → List Token → Prop
  | nil : TkM [] []
  | cons {x r t l} (h : t.1 = x.1 ∧ t.2.1 = x.2 ∧ t.2.2.1 = nOf x) (ht : TkM r l) : TkM (x :: r) (t :: l)
theorem lx_words : ∀ (ws : List Wd), (∀ x ∈ ws, Tk x) → (jb ws).length ≤ 1000000 → ∀ (i : Nat) (acc : List Token), ∃ l, TkM ws l ∧ lxS (jb ws) i acc = (acc ++ l, 0, 0)
  | [], _, _, i, acc => ⟨[], .nil, by show lxS [] i acc = _; rw [lxS_nil]; simp⟩
  | x :: r, h, hl, i, acc => by
    have e := jb_cons x r
    have hlen := congrArg List.length e
    simp only [List.length_append] at hlen
    obtain ⟨l, h1, h2⟩ := lx_words r (fun y hy => h y (List.mem_cons_of_mem _ hy)) (by omega) (i + 9 + x.2.length) (acc ++ [(x.1, x.2, nOf x, ((i + 9 : Nat) : Int))])
    refine ⟨(x.1, x.2, nOf x, ((i + 9 : Nat) : Int)) :: l, .cons ⟨rfl, rfl, rfl⟩ h1, ?_⟩
    rw [e, lx_sep, lx_word (h x List.mem_cons_self) (jb_bl r) (by omega), h2]
    simp
theorem lx_join : ∀ (ws : List Wd), (∀ x ∈ ws, Tk x) → (Lib.join (ws.map fun x => x.2) cmB).length ≤ 1000000 → ∃ l, TkM ws l ∧ lxS (cmA ++ Lib.join (ws.map fun x => x.2) cmB) 0 [] = (l, 0, 0)
  | [], _, _ => ⟨[], .nil, by rw [lx_top]; show lxS [] _ _ = _; rw [lxS_nil]⟩
  | x :: r, h, hl => by
    have e : Lib.join ((x :: r).map fun x => x.2) cmB = x.2 ++ jb r := Lib.join_cons _ _ _
    rw [e] at hl ⊢
    rw [List.length_append] at hl
    obtain ⟨l, h1, h2⟩ := lx_words r (fun y hy => h y (List.mem_cons_of_mem _ hy)) (by omega) (0 + 8 + x.2.length) ([] ++ [(x.1, x.2, nOf x, ((0 + 8 : Nat) : Int))])
    refine ⟨(x.1, x.2, nOf x, ((0 + 8 : Nat) : Int)) :: l, .cons ⟨rfl, rfl, rfl⟩ h1, ?_⟩
    rw [lx_top, lx_word (h x List.mem_cons_self) (jb_bl r) (by omega), h2]
    simp
theorem rk_sep {t : List UInt8} (h : Rk t) : Rk (cmB ++ t) := rk_join (s := [32, 40, 42, 32, 98, 32, 42, 41]) (rk_ascii (by decide)) h
theorem rk_top {t : List UInt8} (h : Rk t) : Rk (cmA ++ t) := rk_join (s := [40, 42, 32, 97, 32, 42, 41]) (rk_ascii (by decide)) h
theorem rk_jb : ∀ (ws : List Wd), (∀ x ∈ ws, Tk x) → Rk (jb ws)
  | [], _ => .nil
  | x :: r, h => by
    rw [jb_cons]
    exact rk_sep (rk_app (h x List.mem_cons_self).2.1 (rk_jb r fun y hy => h y (List.mem_cons_of_mem _ hy)))
theorem rk_joins : ∀ (ws : List Wd), (∀ x ∈ ws, Tk x) → Rk (Lib.join (ws.map fun x => x.2) cmB)
  | [], _ => .nil
  | x :: r, h => by
    have e : Lib.join ((x :: r).map fun x => x.2) cmB = x.2 ++ jb r := Lib.join_cons _ _ _
    rw [e]
    exact rk_app (h x List.mem_cons_self).2.1 (rk_jb r fun y hy => h y (List.mem_cons_of_mem _ hy))
theorem jb_len : ∀ (ws : List Wd), (jb ws).length = 9 * ws.length + (ws.map fun x => x.2.length).sum
  | [] => rfl
  | x :: r => by
    rw [jb_cons, List.length_append, List.length_append, jb_len r, List.map_cons, List.sum_cons, List.length_cons, show cmB.length = 9 from rfl]
    omega
theorem join_len (ws : List Wd) : (Lib.join (ws.map fun x => x.2) cmB).length ≤ 9 * ws.length + (ws.map fun x => x.2.length).sum := by
  cases ws with
  | nil => exact Nat.zero_le _
  | cons x r =>
    have e : Lib.join ((x :: r).map fun x => x.2) cmB = x.2 ++ jb r := Lib.join_cons _ _ _
    rw [e, List.length_append, jb_len, List.map_cons, List.sum_cons, List.length_cons]
    omega
end Go.Proofs.YtnogkihchgnbcaaGreatDoor

/- A text, and its tokens with blanks and comments between, are the same program, or none: the law PmodBlanks. -/
namespace Go.Proofs.YtnogkihchgnbcaaGreatDoor
open Go Go.Am Go.Sx
theorem tokAt_nat (l : List Token) (i : Int) : tokAt l i = if 0 ≤ i then l[i.toNat]? else none := by
  unfold tokAt
  by_cases h0 : 0 ≤ i
  · obtain ⟨n, rfl⟩ : ∃ n : Nat, i = n := ⟨i.toNat, by omega⟩
    rw [if_pos h0]
    simp only [Int.toNat_natCast]
    by_cases h : n < l.length
    · rw [if_pos (by omega), getI_nat]
    · rw [if_neg (by omega), List.getElem?_eq_none (by omega)]
  · rw [if_neg (by omega), if_neg h0]
theorem sm_of {l l' : List Token} (h : l'.map (fun k => (k.1, k.2.1, k.2.2.1)) = l.map (fun k => (k.1, k.2.1, k.2.2.1))) : Sm l l' where
  len := by have := congrArg List.length h; simpa using this
  tk := fun i => by
    rw [tokAt_nat, tokAt_nat]
    by_cases h0 : 0 ≤ i
    · rw [if_pos h0, if_pos h0, ← List.getElem?_map, ← List.getElem?_map, h]
    · rw [if_neg h0, if_neg h0]
theorem tkl_map : ∀ {l l' : List Token}, TkM (l.map kt) l' → (∀ t ∈ l, t.2.2.1 = nOf (kt t)) → l'.map (fun k => (k.1, k.2.1, k.2.2.1)) = l.map (fun k => (k.1, k.2.1, k.2.2.1))
  | [], l', h, _ => by cases h; rfl
  | t :: l, l', h, hn => by
    rw [List.map_cons] at h
    cases h with
    | cons h1 h2 =>
      rw [List.map_cons, List.map_cons, tkl_map h2 fun x hx => hn x (List.mem_cons_of_mem _ hx), h1.1, h1.2.1, h1.2.2, hn t List.mem_cons_self]
      rfl
theorem src_same {s s' : List UInt8} {l l' : List Token} (h : Sm l l') (hl : l.length ≤ 20000) (n : Nat) : ∃ (t : Tr) (j j' e : Int), srcA s l (mDecls l n true [] 0) = (t, j, e) ∧ srcA s' l' (mDecls l' n true [] 0) = (t, j', e) ∧ t.w ≤ 1048576 := by
  rw [(h.m_all n).2.2.2.2.2.2.2.2.1]
  obtain ⟨_, b2, b3⟩ := mb_Ds hl (n := n) (top := true) (out := []) (i := 0) (Nat.zero_le _)
  generalize mDecls l n true [] 0 = g at *
  unfold srcA
  rw [h.len]
  by_cases hg : g.2.2 = 0 ∧ g.2.1 = l.length
  · rw [if_pos hg, if_pos hg]
    have b3 := b3 hg.1
    rw [wL_nil] at b3
    by_cases h1 : 8192 < sizeT (progT g.1)
    · rw [if_pos h1]; exact ⟨_, _, _, _, rfl, rfl, by decide⟩
    rw [if_neg h1]
    by_cases h2 : 60 < deepT (progT g.1)
    · rw [if_pos h2]; exact ⟨_, _, _, _, rfl, rfl, by decide⟩
    rw [if_neg h2]
    exact ⟨_, _, _, _, rfl, rfl, by rw [w_node]; omega⟩
  · rw [if_neg hg, if_neg hg]
    exact ⟨_, _, _, _, rfl, rfl, by decide⟩
theorem ev_bl_loop (s : List UInt8) {l : List Token} (hl : l.length ≤ 20000) {v : Bool} (h : Ev (fun K => law08_PmodBlanks_l0 K s (l.map fun t => t.2.1) l ((l.length : Nat) : Int)) v) : ∀ (m i : Nat), l.length = i + m → Ev (fun K => law08_PmodBlanks_l0 K s ((l.map fun t => t.2.1).take i) l (i : Int)) v := by
  intro m
  induction m with
  | zero =>
    intro i hi
    rw [List.take_of_length_le (by simp; omega), show (i : Int) = ((l.length : Nat) : Int) by omega]
    exact h
  | succ m ih =>
    intro i hi
    have hlt : i < l.length := by omega
    refine Ev.step (fun k => by rw [law08_PmodBlanks_l0]) ?_
    refine Ev.dT (by omega) ?_
    refine Ev.opt (getI_lt hlt) ?_
    refine Ev.opt (appL_ok (by simp; omega)) ?_
    rw [wrap_nat (by omega)]
    have := ih (i + 1) (by omega)
    rw [take_get' (l := l.map fun t => t.2.1) (by simpa using hlt), List.getElem_map] at this
    exact this
/-- The plain law PmodBlanks. -/
theorem law08_PmodBlanks_true (s : List UInt8) : ∃ K, law08_PmodBlanks K s = some true := by
  refine Ev.get (f := fun K => law08_PmodBlanks K s) ?_
  refine Ev.congr (f := fun K => _) ?_ (fun k => by rw [law08_PmodBlanks])
  refine Ev.opt (sub_min (m := 1000)) ?_
  have hs : (s.take 1000).length ≤ 1000 := by rw [List.length_take]; omega
  generalize s.take 1000 = s at *
  by_cases h : Rk s ∧ ∃ l, lxS s 0 [] = (l, 0, 0)
  · obtain ⟨hr, l, hx⟩ := h
    obtain ⟨hl, ht⟩ := lex_len hx
    have hlx : Ev (fun K => lexer_Lex K s) (l, 0, 0) := by
      rcases ev_lex_all (s := s) (by omega) with ⟨_, a⟩ | ⟨a, _⟩
      · rw [hx] at a; exact a
      · exact absurd hr a
    refine Ev.bind hlx ?_
    refine Ev.nF rfl ?_
    have hsum : sumT l ≤ s.length := lxS_sum _ s 0 [] l (Nat.le_refl _) (by rw [List.nil_append]; exact hx)
    have hT : ∀ x ∈ l.map kt, Tk x := fun x hx' => by
      obtain ⟨t, h1, rfl⟩ := List.mem_map.1 hx'
      exact (tkg_tk (ht t h1).1).1
    have hN : ∀ t ∈ l, t.2.2.1 = nOf (kt t) := fun t h1 => (tkg_tk (ht t h1).1).2
    have hmap : (l.map fun t => t.2.1) = (l.map kt).map fun x => x.2 := by rw [List.map_map]; rfl
    have hsm : ((l.map kt).map fun x => x.2.length).sum = sumT l := by rw [List.map_map]; rfl
    have hjl := join_len (l.map kt)
    rw [hsm, List.length_map] at hjl
    obtain ⟨l', k1, k2⟩ := lx_join (l.map kt) hT (by omega)
    have hsame := sm_of (tkl_map k1 hN)
    have hrk := rk_top (rk_joins (l.map kt) hT)
    have hTl : (cmA ++ Lib.join ((l.map kt).map fun x => x.2) cmB).length ≤ 16384 := by
      rw [List.length_append, show cmA.length = 8 from rfl]; omega
    obtain ⟨t, j, j', e, e1, e2, hw⟩ := src_same (s := s) (s' := cmA ++ Lib.join ((l.map kt).map fun x => x.2) cmB) hsame (by omega) (8 * l.length + 2)
    have s1 := ev_src (n := 8 * l.length + 2) (by omega) hr hx (Nat.le_refl _)
    have s2 := ev_src (n := 8 * l.length + 2) hTl hrk k2 (by rw [hsame.len]; exact Nat.le_refl _)
    rw [e1] at s1
    rw [e2] at s2
    have fin : Ev (fun K => law08_PmodBlanks_l0 K s (l.map fun t => t.2.1) l ((l.length : Nat) : Int)) true := by
      refine Ev.step (fun k => by rw [law08_PmodBlanks_l0]) ?_
      refine Ev.dF (by omega) ?_
      refine Ev.bind s1 ?_
      refine Ev.bind (a := Lib.join ((l.map kt).map fun x => x.2) cmB) ⟨0, fun K _ => ?_⟩ ?_
      · rw [hmap]
        show strings_Join K _ cmB = _
        rw [strings_Join, if_pos ⟨by omega, by simp; omega⟩]
      refine Ev.opt (catS_ok (by rw [show ([40, 42, 32, 97, 32, 42, 41, 10] : List UInt8).length = 8 from rfl]; omega)) ?_
      refine Ev.bind s2 ?_
      refine Ev.dT rfl ?_
      refine Ev.nF rfl ?_
      refine Ev.bind (ev_asame t hw) ?_
      refine Ev.isT rfl ?_
      exact Ev.ret ev_works8
    have := ev_bl_loop s (by omega) fin l.length 0 (by omega)
    rw [List.take_zero] at this
    exact this
  · obtain ⟨j, e, he, _, hx, _⟩ := ev_src_no (s := s) (by omega) h
    refine Ev.bind hx ?_
    refine Ev.nT he ?_
    exact Ev.ret ev_works8
end Go.Proofs.YtnogkihchgnbcaaGreatDoor

