/- Joined texts: M5p, M5w, M5. -/
import Derived.Test.YtnogkihchgnbcaaGreatDoorGn
import Derived.Test.YtnogkihchgnbcaaGreatDoorGw
import Derived.Test.YtnogkihchgnbcaaGreatDoorGo
/- The program's parser of modules, at any place. -/
namespace Go.Proofs.YtnogkihchgnbcaaGreatDoor
open Go Go.Am Go.Sx
/-- the answer of a parser of lists: none behind an error -/
def ansL (g : LT) : List Tr × Int × Int := (if g.2.2 = 0 then g.1 else [], ((g.2.1 : Nat) : Int), g.2.2)
section
variable {l : List Token} (hl : l.length ≤ 1000)
include hl
theorem mbeg_ok {i : Int} (h : 0 ≤ i ∧ i ≤ (l.length : Int)) : Ev (fun K => pmod_begin K l i) (l, i, 0) := by
  have := hl
  refine Ev.congr (f := fun K => _) ?_ (fun k => by rw [pmod_begin])
  exact Ev.dF (by omega) (Ev.dF (by omega) Ev.pure)
theorem mbeg_no {i : Int} (h : ¬ (0 ≤ i ∧ i ≤ (l.length : Int))) : Ev (fun K => pmod_begin K l i) (l, 0, 2) := by
  have := hl
  refine Ev.congr (f := fun K => _) ?_ (fun k => by rw [pmod_begin])
  exact Ev.d (fun _ => Ev.pure) (fun h1 => Ev.dT (by omega) Ev.pure)
theorem decls_p {n i : Nat} {top : Bool} (hi : i ≤ l.length) (hn : 8 * (l.length - i) + 2 ≤ n) : Ev (fun K => pmod_Decls K l (i : Int) top) (ansL (mDecls l n top [] i)) := by
  obtain ⟨⟨a, l', i', e'⟩, h1, h2, h3, h4, h5, _⟩ := qdecls ((pm_all hl n).2.2.2.2.2.2.2.2.1 i hi hn top [] (by simp))
  simp only at h2 h3 h4 h5
  subst h2 h3 h4
  refine Ev.congr (f := fun K => _) ?_ (fun k => by rw [pmod_Decls])
  refine Ev.bind (mbeg_ok hl (by omega)) ?_
  refine Ev.bind h1 ?_
  unfold ansL
  refine Ev.n (fun he => Ev.pure' (by rw [if_neg he])) (fun he => Ev.pure' (by rw [if_pos he, he, h5 he]))
theorem decls_no {i : Int} {top : Bool} (h : ¬ (0 ≤ i ∧ i ≤ (l.length : Int))) : Ev (fun K => pmod_Decls K l i top) ([], 0, 2) := by
  refine Ev.congr (f := fun K => _) ?_ (fun k => by rw [pmod_Decls])
  refine Ev.bind (mbeg_no hl h) ?_
  refine Ev.bind (qdecls_err l 0 2 (by decide) top) ?_
  exact Ev.nT (by decide) Ev.pure
theorem mod_p {n i : Nat} (hi : i ≤ l.length) (hn : 8 * (l.length - i) + 2 ≤ n) : Ev (fun K => pmod_Mod K l (i : Int)) (ansE (mMod l n i)) := by
  obtain ⟨⟨a, l', i', e'⟩, h1, h2, h3, h4, h5, _⟩ := (pm_all hl n).1 i hi hn
  generalize mMod l n i = g at *
  simp only at h2 h3 h4 h5
  subst h2 h3 h4
  refine Ev.congr (f := fun K => _) ?_ (fun k => by rw [pmod_Mod])
  refine Ev.bind (mbeg_ok hl (by omega)) ?_
  refine Ev.bind h1 ?_
  unfold ansE
  by_cases he : g.2.2 = 0
  · rw [if_pos he]
    exact Ev.bind (Ev.congr (f := fun K => _) (Ev.nF he Ev.pure) (fun k => by rw [pmod_parser_end])) (Ev.pure' (by rw [h5 he, he]))
  · rw [if_neg he]
    exact Ev.bind (Ev.congr (f := fun K => _) (Ev.nT he Ev.pure) (fun k => by rw [pmod_parser_end])) Ev.pure
theorem mod_no {i : Int} (h : ¬ (0 ≤ i ∧ i ≤ (l.length : Int))) : Ev (fun K => pmod_Mod K l i) (.nil, 0, 2) := by
  refine Ev.congr (f := fun K => _) ?_ (fun k => by rw [pmod_Mod])
  refine Ev.bind (mbeg_no hl h) ?_
  refine Ev.bind (qmod_err l 0 2 (by decide)) ?_
  exact Ev.bind (Ev.congr (f := fun K => _) (Ev.nT (show ¬ (2 : Int) = 0 by decide) Ev.pure) (fun k => by rw [pmod_parser_end])) Ev.pure
theorem sig_p {n i : Nat} (hi : i ≤ l.length) (hn : 8 * (l.length - i) + 2 ≤ n) : Ev (fun K => pmod_Sig K l (i : Int)) (ansE (mSig l n i)) := by
  obtain ⟨⟨a, l', i', e'⟩, h1, h2, h3, h4, h5, _⟩ := (pm_all hl n).2.2.2.1 i hi hn
  generalize mSig l n i = g at *
  simp only at h2 h3 h4 h5
  subst h2 h3 h4
  refine Ev.congr (f := fun K => _) ?_ (fun k => by rw [pmod_Sig])
  refine Ev.bind (mbeg_ok hl (by omega)) ?_
  refine Ev.bind h1 ?_
  unfold ansE
  by_cases he : g.2.2 = 0
  · rw [if_pos he]
    exact Ev.bind (Ev.congr (f := fun K => _) (Ev.nF he Ev.pure) (fun k => by rw [pmod_parser_end])) (Ev.pure' (by rw [h5 he, he]))
  · rw [if_neg he]
    exact Ev.bind (Ev.congr (f := fun K => _) (Ev.nT he Ev.pure) (fun k => by rw [pmod_parser_end])) Ev.pure
theorem sig_no {i : Int} (h : ¬ (0 ≤ i ∧ i ≤ (l.length : Int))) : Ev (fun K => pmod_Sig K l i) (.nil, 0, 2) := by
  refine Ev.congr (f := fun K => _) ?_ (fun k => by rw [pmod_Sig])
  refine Ev.bind (mbeg_no hl h) ?_
  refine Ev.bind (qsig_err l 0 2 (by decide)) ?_
  exact Ev.bind (Ev.congr (f := fun K => _) (Ev.nT (show ¬ (2 : Int) = 0 by decide) Ev.pure) (fun k => by rw [pmod_parser_end])) Ev.pure
theorem ansM_w {n i : Nat} (hi : i ≤ l.length) : (ansE (mMod l n i)).1.w ≤ 1048576 := by
  have b := mb_M hl (n := n) hi
  unfold ansE
  by_cases he : (mMod l n i).2.2 = 0
  · have := b.2.2 he
    have := b.2.1
    simp only [if_pos he]; omega
  · simp only [if_neg he]; decide
theorem ansS_w {n i : Nat} (hi : i ≤ l.length) : (ansE (mSig l n i)).1.w ≤ 1048576 := by
  have b := mb_S hl (n := n) hi
  unfold ansE
  by_cases he : (mSig l n i).2.2 = 0
  · have := b.2.2 he
    have := b.2.1
    simp only [if_pos he]; omega
  · simp only [if_neg he]; decide
theorem ansL_w {n i : Nat} {top : Bool} (hi : i ≤ l.length) : wL (ansL (mDecls l n top [] i)).1 ≤ 1048576 := by
  have b := mb_Ds hl (n := n) (top := top) (out := []) hi
  unfold ansL
  by_cases he : (mDecls l n top [] i).2.2 = 0
  · have := b.2.2 he
    have := b.2.1
    rw [wL_nil] at *
    simp only [if_pos he]; omega
  · simp only [if_neg he]; decide
end
end Go.Proofs.YtnogkihchgnbcaaGreatDoor

/- The document's example of layer 8, at the program; lists of trees alike. -/
namespace Go.Proofs.YtnogkihchgnbcaaGreatDoor
open Go Go.Am Go.Sx
theorem works8 (k : Nat) : law08_works (k + 80) = some true := by kernel_rfl
theorem ev_works8 : Ev (fun K => law08_works K) true := ⟨80, fun K hK => by
  have := works8 (K - 80)
  rwa [show K - 80 + 80 = K by omega] at this⟩
theorem ev_all8 (c : List Tr) (hw : wL c ≤ 1048576) : Ev (fun K => law08_all K c c) true := by
  have hl := wL_len c
  refine Ev.congr (f := fun K => _) ?_ (fun k => by rw [law08_all])
  refine Ev.nF rfl ?_
  have loop : ∀ (m i : Nat), c.length = i + m → Ev (fun K => law08_all_l0 K c c (i : Int)) true := by
    intro m
    induction m with
    | zero => intro i hi; exact Ev.step (fun k => by rw [law08_all_l0]) (Ev.dF (by omega) Ev.pure)
    | succ m ihm =>
      intro i hi
      have hlt : i < c.length := by omega
      have hm := wL_mem (List.getElem_mem hlt)
      refine Ev.step (fun k => by rw [law08_all_l0]) ?_
      refine Ev.dT (by omega) ?_
      refine Ev.opt (getI_lt hlt) ?_
      refine Ev.opt (getI_lt hlt) ?_
      refine Ev.bind (ev_same _ (by omega)) ?_
      refine Ev.isF rfl ?_
      rw [wrap_nat (by omega)]
      exact ihm (i + 1) (by omega)
  exact loop c.length 0 (by omega)
end Go.Proofs.YtnogkihchgnbcaaGreatDoor

/- The laws PmodDecls, PmodParses. -/
namespace Go.Proofs.YtnogkihchgnbcaaGreatDoor
open Go Go.Am Go.Sx
section
variable {l : List Token} (hl : l.length ≤ 1000) (hT : ∀ k ∈ l, k.2.1.length ≤ 1099511627776)
include hl hT
theorem mod_at (i : Int) : ∃ (t : Tr) (j er : Int), Ev (fun K => pmod_Mod K l i) (t, j, er) ∧ Ev (fun K => ref08_Mod K l i) (t, j, er) ∧ t.w ≤ 1048576 := by
  by_cases h : 0 ≤ i ∧ i ≤ (l.length : Int)
  · obtain ⟨n, rfl⟩ : ∃ n : Nat, i = n := ⟨i.toNat, by omega⟩
    refine ⟨_, _, _, mod_p hl (by omega) (Nat.le_refl _), ?_, ansM_w hl (by omega)⟩
    obtain ⟨⟨a, i', e'⟩, h1, ⟨h3, h4, h5, _⟩, h6⟩ := (dm_all hl hT (8 * (l.length - n) + 2)).1 n (by omega) (Nat.le_refl _)
    simp only at h3 h4 h5 h6
    subst h3 h4
    refine Ev.congr (f := fun K => _) ?_ (fun k => by rw [ref08_Mod])
    refine Ev.dF (by omega) (Ev.dF (by omega) ?_)
    refine Ev.bind h1 (Ev.pure' ?_)
    by_cases he : (mMod l (8 * (l.length - n) + 2) n).2.2 = 0
    · rw [if_pos he, h5 he]
    · rw [if_neg he, h6 he]
  · refine ⟨_, _, _, mod_no hl h, ?_, by decide⟩
    refine Ev.congr (f := fun K => _) ?_ (fun k => by rw [ref08_Mod])
    exact Ev.d (fun _ => Ev.pure) (fun h1 => Ev.dT (by omega) Ev.pure)
theorem sig_at (i : Int) : ∃ (t : Tr) (j er : Int), Ev (fun K => pmod_Sig K l i) (t, j, er) ∧ Ev (fun K => ref08_Sig K l i) (t, j, er) ∧ t.w ≤ 1048576 := by
  by_cases h : 0 ≤ i ∧ i ≤ (l.length : Int)
  · obtain ⟨n, rfl⟩ : ∃ n : Nat, i = n := ⟨i.toNat, by omega⟩
    refine ⟨_, _, _, sig_p hl (by omega) (Nat.le_refl _), ?_, ansS_w hl (by omega)⟩
    obtain ⟨⟨a, i', e'⟩, h1, ⟨h3, h4, h5, _⟩, h6⟩ := (dm_all hl hT (8 * (l.length - n) + 2)).2.2.2.1 n (by omega) (Nat.le_refl _)
    simp only at h3 h4 h5 h6
    subst h3 h4
    refine Ev.congr (f := fun K => _) ?_ (fun k => by rw [ref08_Sig])
    refine Ev.dF (by omega) (Ev.dF (by omega) ?_)
    refine Ev.bind h1 (Ev.pure' ?_)
    by_cases he : (mSig l (8 * (l.length - n) + 2) n).2.2 = 0
    · rw [if_pos he, h5 he]
    · rw [if_neg he, h6 he]
  · refine ⟨_, _, _, sig_no hl h, ?_, by decide⟩
    refine Ev.congr (f := fun K => _) ?_ (fun k => by rw [ref08_Sig])
    exact Ev.d (fun _ => Ev.pure) (fun h1 => Ev.dT (by omega) Ev.pure)
theorem decls_at (i : Int) (top : Bool) : ∃ (c : List Tr) (j er : Int), Ev (fun K => pmod_Decls K l i top) (c, j, er) ∧ Ev (fun K => ref08_Decls K l i top) (c, j, er) ∧ wL c ≤ 1048576 := by
  by_cases h : 0 ≤ i ∧ i ≤ (l.length : Int)
  · obtain ⟨n, rfl⟩ : ∃ n : Nat, i = n := ⟨i.toNat, by omega⟩
    refine ⟨_, _, _, decls_p hl (by omega) (Nat.le_refl _), ?_, ansL_w hl (by omega)⟩
    obtain ⟨⟨a, i', e'⟩, h1, ⟨h3, h4, h5, _⟩, h6⟩ := many1 ((dm_all hl hT (8 * (l.length - n) + 2)).2.2.2.2.2.2.2.2.1 n (by omega) (Nat.le_refl _) top [] (by simp))
    simp only at h3 h4 h5 h6
    subst h3 h4
    refine Ev.congr (f := fun K => _) ?_ (fun k => by rw [ref08_Decls])
    refine Ev.dF (by omega) (Ev.dF (by omega) ?_)
    refine Ev.bind ev_declRows ?_
    refine Ev.bind h1 (Ev.pure' ?_)
    by_cases he : (mDecls l (8 * (l.length - n) + 2) top [] n).2.2 = 0
    · rw [if_pos he, h5 he]
    · rw [if_neg he, h6 he]
  · refine ⟨_, _, _, decls_no hl h, ?_, by decide⟩
    refine Ev.congr (f := fun K => _) ?_ (fun k => by rw [ref08_Decls])
    exact Ev.d (fun _ => Ev.pure) (fun h1 => Ev.dT (by omega) Ev.pure)
end
/-- The plain law PmodDecls. -/
theorem law08_PmodDecls_true (l : List Token) (i : Int) (top : Bool) : ∃ K, law08_PmodDecls K l i top = some true := by
  refine Ev.get (f := fun K => law08_PmodDecls K l i top) ?_
  refine Ev.congr (f := fun K => _) ?_ (fun k => by rw [law08_PmodDecls])
  have hl := fewT_len l
  have hT := fewT_text l
  refine Ev.bind (ev_Few l) ?_
  generalize fewT l = p at *
  obtain ⟨c, j, er, a1, a2, a3⟩ := decls_at (by omega) hT i top
  refine Ev.bind a1 ?_
  refine Ev.bind a2 ?_
  refine Ev.bind (ev_all8 c a3) ?_
  refine Ev.isT rfl ?_
  refine Ev.dT rfl ?_
  refine Ev.dT rfl ?_
  exact Ev.ret ev_works8
/-- The plain law PmodParses. -/
theorem law08_PmodParses_true (l : List Token) (i : Int) : ∃ K, law08_PmodParses K l i = some true := by
  refine Ev.get (f := fun K => law08_PmodParses K l i) ?_
  refine Ev.congr (f := fun K => _) ?_ (fun k => by rw [law08_PmodParses])
  have hl := fewT_len l
  have hT := fewT_text l
  refine Ev.bind (ev_Few l) ?_
  generalize fewT l = p at *
  obtain ⟨t, j, er, a1, a2, a3⟩ := mod_at (by omega) hT i
  obtain ⟨s, j', er', b1, b2, b3⟩ := sig_at (by omega) hT i
  refine Ev.bind a1 ?_
  refine Ev.bind a2 ?_
  refine Ev.bind b1 ?_
  refine Ev.bind b2 ?_
  refine Ev.bind (ev_same t a3) ?_
  refine Ev.isT rfl ?_
  refine Ev.dT rfl ?_
  refine Ev.dT rfl ?_
  refine Ev.bind (ev_same s b3) ?_
  refine Ev.isT rfl ?_
  refine Ev.dT rfl ?_
  refine Ev.dT rfl ?_
  exact Ev.ret ev_works8
end Go.Proofs.YtnogkihchgnbcaaGreatDoor

