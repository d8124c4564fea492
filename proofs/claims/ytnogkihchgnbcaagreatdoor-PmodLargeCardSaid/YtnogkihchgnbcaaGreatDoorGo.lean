/- Joined texts: M5w, M7. -/
import Derived.Test.YtnogkihchgnbcaaGreatDoorGf
import Derived.Test.YtnogkihchgnbcaaGreatDoorGp
import Derived.Test.YtnogkihchgnbcaaGreatDoorGn
import Derived.Test.YtnogkihchgnbcaaGreatDoorGq
import Derived.Test.YtnogkihchgnbcaaGreatDoorGl
/- The document's example of layer 8, at the program. -/
namespace Go.Proofs.YtnogkihchgnbcaaGreatDoor
open Go Go.Am Go.Sx
theorem works8 (k : Nat) : law08_works (k + 80) = some true := by kernel_rfl
theorem ev_works8 : Ev (fun K => law08_works K) true := ⟨80, fun K hK => by
  have := works8 (K - 80)
  rwa [show K - 80 + 80 = K by omega] at this⟩
end Go.Proofs.YtnogkihchgnbcaaGreatDoor

/- A program's text: its tree, or where it is refused. -/
namespace Go.Proofs.YtnogkihchgnbcaaGreatDoor
open Go Go.Am Go.Sx
abbrev progT (ks : List Tr) : Tr := .node 80 0 [] [] ks
def srcA (s : List UInt8) (l : List Token) (g : LT) : Tr × Int × Int :=
  if g.2.2 = 0 ∧ g.2.1 = l.length then (if 8192 < sizeT (progT g.1) then (.nil, 0, 3) else if 60 < deepT (progT g.1) then (.nil, 0, 7) else (progT g.1, 0, 0))
  else (.nil, (if g.2.1 < l.length then (l.getD g.2.1 (0, [], 0, 0)).2.2.2 else ((s.length : Nat) : Int)), if g.2.2 = 0 then 6 else g.2.2)
theorem lex_len {s : List UInt8} {l : List Token} (h : lxS s 0 [] = (l, 0, 0)) : l.length ≤ s.length ∧ ∀ t ∈ l, TkG (t.1, t.2.1) t.2.2.1 ∧ 0 ≤ t.2.2.2 ∧ t.2.2.2 < ((s.length : Nat) : Int) := by
  rcases lxS_bd _ s 0 [] (Nat.le_refl _) with ⟨_, _, m, h1, h2, h3⟩ | ⟨j, h1, _⟩
  · rw [h, List.nil_append] at h1
    obtain rfl : l = m := h1
    exact ⟨h2, fun t ht => ⟨(h3 t ht).1, by have := (h3 t ht).2; omega, by have := (h3 t ht).2; omega⟩⟩
  · rw [h] at h1; exact absurd (show (0 : Int) = 5 from congrArg (·.2.2) h1) (by decide)
theorem ev_src_c0 {s : List UInt8} {l : List Token} (hl : l.length ≤ 20000) {g : LT} (hj : g.2.1 ≤ l.length) (hw : g.2.2 = 0 → wL g.1 ≤ 1048576) :
    Ev (fun K => iteS (decide (g.2.2 = 0)) (iteS (decide (((g.2.1 : Nat) : Int) < ((l.length : Nat) : Int))) (pmod_Source_c0 K s 6 l (if g.2.2 = 0 then g.1 else []) ((g.2.1 : Nat) : Int)) (pmod_Source_c0 K s g.2.2 l (if g.2.2 = 0 then g.1 else []) ((g.2.1 : Nat) : Int))) (pmod_Source_c0 K s g.2.2 l (if g.2.2 = 0 then g.1 else []) ((g.2.1 : Nat) : Int))) (srcA s l g) := by
  obtain ⟨ks, j, e⟩ := g
  simp only at hj hw ⊢
  have bad : ∀ (k : List Tr) (c : Int), c ≠ 0 → Ev (fun K => pmod_Source_c0 K s c l k (j : Int)) (.nil, (if j < l.length then (l.getD j (0, [], 0, 0)).2.2.2 else ((s.length : Nat) : Int)), c) := fun k c hc => by
    refine Ev.step (fun k => by rw [pmod_Source_c0]) ?_
    refine Ev.nT hc ?_
    refine Ev.d (fun h => ?_) (fun h => ?_)
    · refine Ev.opt (getI_lt (by omega)) (Ev.pure' ?_)
      rw [if_pos (by omega)]
      congr 3
      rw [List.getD_eq_getElem?_getD, List.getElem?_eq_getElem (by omega)]; rfl
    · rw [if_neg (by omega)]; exact Ev.pure
  unfold srcA
  simp only
  by_cases he : e = 0
  · subst he
    refine Ev.dT rfl ?_
    refine Ev.d (fun h => ?_) (fun h => ?_)
    · rw [if_neg (show ¬ ((0 : Int) = 0 ∧ j = l.length) from fun h' => by omega)]
      exact bad _ 6 (by decide)
    · have hj' : j = l.length := by omega
      rw [if_pos (show (0 : Int) = 0 ∧ j = l.length from ⟨rfl, hj'⟩)]
      have hw := hw rfl
      have hwp : (progT ks).w ≤ 1099511627776 := by rw [w_node]; omega
      refine Ev.step (fun k => by rw [pmod_Source_c0]) ?_
      refine Ev.nF rfl ?_
      rw [if_pos rfl]
      refine Ev.bind (nodeM _ _ _) ?_
      refine Ev.bind (ev_size (progT ks) hwp) ?_
      have es := ev_deep (progT ks) hwp
      generalize sizeT (progT ks) = q1
      generalize deepT (progT ks) = q2 at es ⊢
      refine Ev.d (fun h1 => ?_) (fun h1 => ?_)
      · rw [if_pos (show 8192 < q1 by omega)]; exact Ev.pure
      rw [if_neg (show ¬ 8192 < q1 by omega)]
      refine Ev.bind es ?_
      refine Ev.d (fun h2 => ?_) (fun h2 => ?_)
      · rw [if_pos (show 60 < q2 by omega)]; exact Ev.pure
      · rw [if_neg (show ¬ 60 < q2 by omega)]; exact Ev.pure
  · refine Ev.dF he ?_
    rw [if_neg (show ¬ (e = 0 ∧ j = l.length) from fun h => he h.1), if_neg he, if_neg he]
    exact bad _ e he
/-- a text that is read and told -/
theorem ev_src {s : List UInt8} {l : List Token} {n : Nat} (hs : s.length ≤ 16384) (hr : Rk s) (h : lxS s 0 [] = (l, 0, 0)) (hn : 8 * l.length + 2 ≤ n) : Ev (fun K => pmod_Source K s) (srcA s l (mDecls l n true [] 0)) := by
  obtain ⟨h1, h2⟩ := lex_len h
  have hl : l.length ≤ 20000 := by omega
  have hx : Ev (fun K => lexer_Lex K s) (l, 0, 0) := by
    rcases ev_lex_all hs with ⟨_, a⟩ | ⟨a, _⟩
    · rw [h] at a; exact a
    · exact absurd hr a
  refine Ev.congr (f := fun K => _) ?_ (fun K => by rw [pmod_Source])
  refine Ev.bind hx ?_
  refine Ev.nF rfl ?_
  refine Ev.bind (decls_p hl (i := 0) (n := n) (by omega) (by omega)) ?_
  have b := mb_Ds hl (n := n) (top := true) (out := []) (i := 0) (Nat.zero_le _)
  obtain ⟨_, b2, b3⟩ := b
  exact ev_src_c0 hl b2 (fun he => by have := b3 he; rw [wL_nil] at this; omega)
end Go.Proofs.YtnogkihchgnbcaaGreatDoor

