/- Joined texts: M5w, M6, M7, M8. -/
import Derived.Test.YtnogkihchgnbcaaGreatDoorGf
import Derived.Test.YtnogkihchgnbcaaGreatDoorGp
import Derived.Test.YtnogkihchgnbcaaGreatDoorGn
import Derived.Test.YtnogkihchgnbcaaGreatDoorGv
import Derived.Test.YtnogkihchgnbcaaGreatDoorGq
import Derived.Test.YtnogkihchgnbcaaGreatDoorGl
/- The document's example of layer 8, at the program. -/
namespace Go.Proofs.YtnogkihchgnbcaaGreatDoor
open Go Go.Am Go.Sx
theorem works8 (k : Nat) : law08_works (k + 80) = some true := by kernel_rfl
theorem ev_works8 : Ev (fun K => law08_works K) true := ⟨80, fun K hK => by
  have := works8 (K - 80)
  rwa [show K - 80 + 80 = K by omega] at this⟩
end Go.Proofs.YtnogkihchgnbcaaGreatDoor

/- What is parsed has a form: modules, signatures, specifications, declarations. Printed by gen8/m6.py. -/
namespace Go.Proofs.YtnogkihchgnbcaaGreatDoor
open Go Go.Am Go.Sx
/-- a tree of a category, and good -/
def OkT (c : Int) (t : Tr) : Prop := isT c t = true ∧ Good t
/-- a declaration: at the top, or within -/
def OkD (top : Bool) (t : Tr) : Prop := OkT 6 t ∧ (top = false → kindOf t ≠ 74 ∧ kindOf t ≠ 75)
theorem kd {k n : Int} {nm mk : List UInt8} {ks : List Tr} (h : k ≠ 74 ∧ k ≠ 75) : kindOf (.node k n nm mk ks) ≠ 74 ∧ kindOf (.node k n nm mk ks) ≠ 75 := h
def OkC (c : List Tr) : Prop := consGo (isT 8) [] c = true ∧ c ≠ [] ∧ (∀ x ∈ c, Good x) ∧ c.length ≤ 100000
theorem ok1 {c k n : Int} {nm mk : List UInt8} {ks : List Tr} {r : Row} (h : sel c k = [r]) (hb : bodyS isT n nm mk ks r = true) (hn : nm.length ≤ 1000) (hm : mk.length ≤ 1000) (hl : ks.length ≤ 1000000) (hk : ∀ x ∈ ks, Good x) : OkT c (.node k n nm mk ks) :=
  ⟨by rw [isT_row h]; exact hb, .mk (by omega) (by omega) (by omega) hk⟩
theorem ok2 {c k n : Int} {nm mk : List UInt8} {ks : List Tr} {r r' : Row} (h : sel c k = [r, r']) (hb : bodyS isT n nm mk ks r = true ∨ bodyS isT n nm mk ks r' = true) (hn : nm.length ≤ 1000) (hm : mk.length ≤ 1000) (hl : ks.length ≤ 1000000) (hk : ∀ x ∈ ks, Good x) : OkT c (.node k n nm mk ks) :=
  ⟨by rw [isT_rows h]; rcases hb with hb | hb <;> rw [hb] <;> simp, .mk (by omega) (by omega) (by omega) hk⟩
section
variable {a b : Tr} {s x : List UInt8} {ks : List Tr}
theorem mk_seal {n : Int} (hn : n = 0 ∨ n = 1) (ha : OkT 3 a) (hb : OkT 4 b) : OkT 3 (.node 43 n [] [] [a, b]) := by
  refine ok1 (r := (3, 43, [], [], 0, 1, [109, 115])) rfl ?_ (by simp) (by simp) (by simp) (good2 ha.2 hb.2)
  show (true && (true && (decide (0 ≤ n) && (decide (n ≤ 1) && (isT 3 a && (isT 4 b && true)))))) = true
  rw [ha.1, hb.1, decide_eq_true (by omega), decide_eq_true (by omega)]; rfl
theorem inner_all {r : List Tr} (h : ∀ x ∈ r, OkD false x) : r.all (fun x => isT 6 x && notI 105 x) = true := List.all_eq_true.2 fun y hy => by
  obtain ⟨h1, h2⟩ := h y hy
  obtain ⟨h2, h3⟩ := h2 rfl
  unfold notI
  rw [h1.1, decide_eq_false h2, decide_eq_false h3]; rfl
theorem mk_str (h : ∀ x ∈ ks, OkD false x) (hl : ks.length ≤ 1000000) : OkT 3 (.node 40 0 [] [] ks) := by
  refine ok1 (r := (3, 40, [], [], 0, 0, [42, 105])) rfl ?_ (by simp) (by simp) hl (fun x hx => (h x hx).1.2)
  show (true && (true && (true && (true && ks.all (fun x => isT 6 x && notI 105 x))))) = true
  rw [inner_all h]; rfl
theorem prog_all {r : List Tr} (h : ∀ x ∈ r, OkD true x) : r.all (fun x => isT 6 x && notI 100 x) = true := List.all_eq_true.2 fun y hy => by
  rw [(h y hy).1.1]; rfl
theorem mk_prog (h : ∀ x ∈ ks, OkD true x) (hl : ks.length ≤ 1000000) : OkT 7 (.node 80 0 [] [] ks) := by
  refine ok1 (r := (7, 80, [], [], 0, 0, [42, 100])) rfl ?_ (by simp) (by simp) hl (fun x hx => (h x hx).1.2)
  show (true && (true && (true && (true && ks.all (fun x => isT 6 x && notI 100 x))))) = true
  rw [prog_all h]; rfl
theorem spec_all {r : List Tr} (h : ∀ x ∈ r, OkT 5 x) : r.all (fun x => isT 5 x && notI 112 x) = true := List.all_eq_true.2 fun y hy => by
  rw [(h y hy).1]; rfl
theorem mk_body (h : ∀ x ∈ ks, OkT 5 x) (hl : ks.length ≤ 1000000) : OkT 4 (.node 50 0 [] [] ks) := by
  refine ok1 (r := (4, 50, [], [], 0, 0, [42, 112])) rfl ?_ (by simp) (by simp) hl (fun x hx => (h x hx).2)
  show (true && (true && (true && (true && ks.all (fun x => isT 5 x && notI 112 x))))) = true
  rw [spec_all h]; rfl
theorem mk_where (hs : lgS s = true) (ha : OkT 4 a) (hb : OkT 1 b) : OkT 4 (.node 52 0 s [] [a, b]) := by
  have := lg_len hs
  refine ok1 (r := (4, 52, [108], [], 0, 0, [115, 116])) rfl ?_ (by omega) (by simp) (by simp) (good2 ha.2 hb.2)
  show (lgS s && (true && (true && (true && (isT 4 a && (isT 1 b && true)))))) = true
  rw [hs, ha.1, hb.1]; rfl
theorem mk_n0 {c k : Int} (h : sel c k = [(c, k, [110], [], 0, 0, [])]) (hs : ckS s = true) : OkT c (.node k 0 s [] []) := by
  have := ck_len hs
  refine ok1 h ?_ (by omega) (by simp) (by simp) (fun x hx => by cases hx)
  show (ckS s && (true && (true && (true && true)))) = true
  rw [hs]; rfl
theorem mk_l0 {c k : Int} (h : sel c k = [(c, k, [108], [], 0, 0, [])]) (hs : lgS s = true) : OkT c (.node k 0 s [] []) := by
  have := lg_len hs
  refine ok1 h ?_ (by omega) (by simp) (by simp) (fun x hx => by cases hx)
  show (lgS s && (true && (true && (true && true)))) = true
  rw [hs]; rfl
theorem mk_n1 {c d k : Int} {w : UInt8} (h : sel c k = [(c, k, [110], [], 0, 0, [w])]) (hw : kidsS isT [w] [a] = (isT d a && true)) (hs : ckS s = true) (ha : OkT d a) : OkT c (.node k 0 s [] [a]) := by
  have := ck_len hs
  refine ok1 h ?_ (by omega) (by simp) (by simp) (good1 ha.2)
  show (ckS s && (true && (true && (true && kidsS isT [w] [a])))) = true
  rw [hw, hs, ha.1]; rfl
theorem mk_e1 {c d k : Int} {w : UInt8} (h : sel c k = [(c, k, [], [], 0, 0, [w])]) (hw : kidsS isT [w] [a] = (isT d a && true)) (ha : OkT d a) : OkT c (.node k 0 [] [] [a]) := by
  refine ok1 h ?_ (by simp) (by simp) (by simp) (good1 ha.2)
  show (true && (true && (true && (true && kidsS isT [w] [a])))) = true
  rw [hw, ha.1]; rfl
theorem mk_data {c k : Int} (h : sel c k = [(c, k, [110], [], 0, 0, [67])]) (hs : ckS s = true) (hc : OkC ks) : OkT c (.node k 0 s [] ks) := by
  have := ck_len hs
  obtain ⟨h1, h2, h3, h4⟩ := hc
  refine ok1 h ?_ (by omega) (by simp) (by omega) h3
  show (ckS s && (true && (true && (true && (consGo (isT 8) [] ks && decide (0 < ks.length)))))) = true
  rw [hs, h1, decide_eq_true (by cases ks with | nil => exact absurd rfl h2 | cons => simp)]; rfl
theorem mk_pty1 (hs : ckS s = true) (ha : OkT 1 a) : OkT 5 (.node 61 0 s [] [a]) := by
  have := ck_len hs
  refine ok2 (r := (5, 61, [110], [], 0, 0, [116])) (r' := (5, 61, [110], [], 0, 0, [])) rfl (.inl ?_) (by omega) (by simp) (by simp) (good1 ha.2)
  show (ckS s && (true && (true && (true && (isT 1 a && true))))) = true
  rw [hs, ha.1]; rfl
theorem mk_pty0 (hs : ckS s = true) : OkT 5 (.node 61 0 s [] []) := by
  have := ck_len hs
  refine ok2 (r := (5, 61, [110], [], 0, 0, [116])) (r' := (5, 61, [110], [], 0, 0, [])) rfl (.inr ?_) (by omega) (by simp) (by simp) (fun x hx => by cases hx)
  show (ckS s && (true && (true && (true && true)))) = true
  rw [hs]; rfl
theorem mk_share (hs : lgS s = true) (hx : lgS x = true) : OkT 5 (.node 65 0 s x []) := by
  have := lg_len hs
  have := lg_len hx
  refine ok1 (r := (5, 65, [108], [108], 0, 0, [])) rfl ?_ (by omega) (by omega) (by simp) (fun x hx => by cases hx)
  show (lgS s && (lgS x && (true && (true && true)))) = true
  rw [hs, hx]; rfl
theorem mk_val1 (hs : ckS s = true) (ha : OkT 2 a) : OkT 6 (.node 70 0 s [] [a]) := by
  have := ck_len hs
  refine ok2 (r := (6, 70, [110], [], 0, 0, [101])) (r' := (6, 70, [110], [], 0, 0, [116, 101])) rfl (.inl ?_) (by omega) (by simp) (by simp) (good1 ha.2)
  show (ckS s && (true && (true && (true && (isT 2 a && true))))) = true
  rw [hs, ha.1]; rfl
theorem mk_val2 (hs : ckS s = true) (ha : OkT 1 a) (hb : OkT 2 b) : OkT 6 (.node 70 0 s [] [a, b]) := by
  have := ck_len hs
  refine ok2 (r := (6, 70, [110], [], 0, 0, [101])) (r' := (6, 70, [110], [], 0, 0, [116, 101])) rfl (.inr ?_) (by omega) (by simp) (by simp) (good2 ha.2 hb.2)
  show (ckS s && (true && (true && (true && (isT 1 a && (isT 2 b && true)))))) = true
  rw [hs, ha.1, hb.1]; rfl
theorem mk_fun (hs : ckS s = true) (hx : ckS x = true) (ha : OkT 4 a) (hb : OkT 3 b) : OkT 6 (.node 75 0 s x [a, b]) := by
  have := ck_len hs
  have := ck_len hx
  refine ok1 (r := (6, 75, [110], [110], 0, 0, [115, 109])) rfl ?_ (by omega) (by omega) (by simp) (good2 ha.2 hb.2)
  show (ckS s && (ckS x && (true && (true && (isT 4 a && (isT 3 b && true)))))) = true
  rw [hs, hx, ha.1, hb.1]; rfl
end
theorem lg_ck {l : List Token} {i : Nat} (h : (lgR l i).2.2 = 0) : lgS (lgR l i).1 = true := by
  unfold lgR at h ⊢
  by_cases hk : (longS l (i : Int)).2 = true
  · rw [if_pos hk]; exact long_lg hk
  · rw [if_neg hk] at h; exact absurd (show (6 : Int) = 0 from h) (by decide)
section
variable {l : List Token} (hl : l.length ≤ 20000)
include hl
theorem ty_is {i : Nat} (hi : i ≤ l.length) : Yes (tyR l i) (fun t _ => OkT 1 t) := fun h => by
  obtain ⟨h1, h2, _⟩ := ty_fm hl hi h
  exact ⟨h1, h2⟩
theorem ex_is {i : Nat} (hi : i ≤ l.length) : Yes (exR l i) (fun t _ => OkT 2 t) := fun h => by
  obtain ⟨h1, h2, _⟩ := (e_fm hl (8 * l.length + 6) i hi).1 h
  exact ⟨h1, h2⟩
theorem cn_is {i : Nat} (_hi : i ≤ l.length) : Yes (cnR l i) (fun c _ => OkC c) := fun h => by
  have hf := (pf_all l (3 * l.length + 3) (by omega) i).2.2.2 []
  unfold cnR at h ⊢
  generalize consS l (3 * l.length + 3) i [] = g at *
  obtain ⟨c, j, e⟩ := g
  have h : e = 0 := h
  subst h
  obtain ⟨f1, f2, f3, f4⟩ := hf c j rfl rfl (fun x hx => by cases hx)
  exact ⟨f1, f2, f3, by simp only [List.length_nil] at f4 ⊢; omega⟩
omit hl in
theorem kt_is {c : Int} {s : List UInt8} {f : Nat → RT} {i : Nat} (hi : i ≤ l.length) (hf : ∀ j, j ≤ l.length → Yes (f j) (fun t _ => OkT c t)) : Yes (bhd .nil l s f i) (fun t _ => OkT c t) := by
  have b := bw_ks l [s] i hi
  unfold bhd
  generalize ks l [s] i = g at *
  exact yes_bnd fun _ => hf g.2.1 b.2
theorem m_fm : ∀ n i, i ≤ l.length → Yes (mMod l n i) (fun t _ => OkT 3 t) ∧ (∀ m, OkT 3 m → Yes (mModL l n m i) (fun t _ => OkT 3 t)) ∧ Yes (mPrim l n i) (fun t _ => OkT 3 t) ∧ Yes (mSig l n i) (fun t _ => OkT 4 t) ∧ (∀ m, OkT 4 m → Yes (mSigL l n m i) (fun t _ => OkT 4 t)) ∧
    Yes (mBody l n i) (fun t _ => OkT 4 t) ∧ (∀ out, (∀ x ∈ out, OkT 5 x) → Yes (mSpecs l n out i) (fun r _ => ∀ x ∈ r, OkT 5 x)) ∧ Yes (mSpec l n i) (fun t _ => OkT 5 t) ∧ (∀ top out, (∀ x ∈ out, OkD top x) → Yes (mDecls l n top out i) (fun r _ => ∀ x ∈ r, OkD top x)) ∧ (∀ top, Yes (mDecl l n top i) (fun t _ => OkD top t)) := by
  intro n
  induction n with
  | zero =>
    intro i hi
    have no : ∀ {α : Type} {d : α} {j : Nat} {p : α → Nat → Prop}, Yes (d, j, 6) p := fun h => absurd (show (6 : Int) = 0 from h) (by decide)
    refine ⟨?_, fun m _ => ?_, ?_, ?_, fun m _ => ?_, ?_, fun out _ => ?_, ?_, fun top out _ => ?_, fun top => ?_⟩
    · rw [mMod]; exact no
    · rw [mModL]; exact no
    · rw [mPrim]; exact no
    · rw [mSig]; exact no
    · rw [mSigL]; exact no
    · rw [mBody]; exact no
    · rw [mSpecs]; exact no
    · rw [mSpec]; exact no
    · rw [mDecls]; exact no
    · rw [mDecl]; exact no
  | succ n ih =>
    intro i hi
    have ihM : ∀ j, j ≤ l.length → Yes (mMod l n j) (fun t _ => OkT 3 t) := fun j h => (ih j h).1
    have ihML : ∀ j, j ≤ l.length → ∀ m, OkT 3 m → Yes (mModL l n m j) (fun t _ => OkT 3 t) := fun j h => (ih j h).2.1
    have ihP : ∀ j, j ≤ l.length → Yes (mPrim l n j) (fun t _ => OkT 3 t) := fun j h => (ih j h).2.2.1
    have ihS : ∀ j, j ≤ l.length → Yes (mSig l n j) (fun t _ => OkT 4 t) := fun j h => (ih j h).2.2.2.1
    have ihSL : ∀ j, j ≤ l.length → ∀ m, OkT 4 m → Yes (mSigL l n m j) (fun t _ => OkT 4 t) := fun j h => (ih j h).2.2.2.2.1
    have ihB : ∀ j, j ≤ l.length → Yes (mBody l n j) (fun t _ => OkT 4 t) := fun j h => (ih j h).2.2.2.2.2.1
    have ihSs : ∀ out j, j ≤ l.length → (∀ x ∈ out, OkT 5 x) → Yes (mSpecs l n out j) (fun r _ => ∀ x ∈ r, OkT 5 x) := fun out j h => (ih j h).2.2.2.2.2.2.1 out
    have ihSp : ∀ j, j ≤ l.length → Yes (mSpec l n j) (fun t _ => OkT 5 t) := fun j h => (ih j h).2.2.2.2.2.2.2.1
    have ihDs : ∀ top out j, j ≤ l.length → (∀ x ∈ out, OkD top x) → Yes (mDecls l n top out j) (fun r _ => ∀ x ∈ r, OkD top x) := fun top out j h => (ih j h).2.2.2.2.2.2.2.2.1 top out
    have ihD : ∀ top j, j ≤ l.length → Yes (mDecl l n top j) (fun t _ => OkD top t) := fun top j h => (ih j h).2.2.2.2.2.2.2.2.2 top
    refine ⟨?_, fun m hm => ?_, ?_, ?_, fun m hm => ?_, ?_, fun out ho => ?_, ?_, fun top out ho => ?_, fun top => ?_⟩
    · rw [mMod]
      have b := mb_P hl (n := n) (i := i) (by omega)
      have f := ihP (i) (by omega)
      generalize mPrim l n (i) = g1 at *
      obtain ⟨g1a, g1b, _⟩ := b
      refine yes_bnd fun h1 => ?_
      have f1 := f h1
      exact ihML g1.2.1 g1b g1.1 f1
    · rw [mModL]
      by_cases k0 : keyS l (i : Int) [58] = true
      · rw [if_pos k0]
        have hin := key_in k0
        have b := mb_S hl (n := n) (i := i + 1) (by omega)
        have f := ihS (i + 1) (by omega)
        generalize mSig l n (i + 1) = g1 at *
        obtain ⟨g1a, g1b, _⟩ := b
        refine yes_bnd fun h1 => ?_
        have f1 := f h1
        exact ihML g1.2.1 g1b _ (mk_seal (.inl rfl) hm f1)
      rw [if_neg k0]
      by_cases k1 : keyS l (i : Int) [58, 62] = true
      · rw [if_pos k1]
        have hin := key_in k1
        have b := mb_S hl (n := n) (i := i + 1) (by omega)
        have f := ihS (i + 1) (by omega)
        generalize mSig l n (i + 1) = g1 at *
        obtain ⟨g1a, g1b, _⟩ := b
        refine yes_bnd fun h1 => ?_
        have f1 := f h1
        exact ihML g1.2.1 g1b _ (mk_seal (.inr rfl) hm f1)
      rw [if_neg k1]
      exact fun _ => hm
    · rw [mPrim]
      by_cases k0 : keyS l (i : Int) kStruct = true
      · rw [if_pos k0]
        have hin := key_in k0
        have b := mb_Ds hl (n := n) (top := false) (out := []) (i := i + 1) (by omega)
        have f := ihDs false [] (i + 1) (by omega) (fun y hy => by cases hy)
        generalize mDecls l n false [] (i + 1) = g1 at *
        obtain ⟨g1a, g1b, g1c⟩ := b
        refine yes_bnd fun h1 => ?_
        have f1 := f h1
        have g1c := g1c h1
        rw [wL_nil] at g1c
        have n1 := wL_len g1.1
        have b := bw_ks l [kEnd] (g1.2.1) (by omega)
        generalize ks l [kEnd] (g1.2.1) = g2 at *
        obtain ⟨g2a, g2b⟩ := b
        refine yes_bnd fun h2 => ?_
        exact fun _ => mk_str f1 (by omega)
      rw [if_neg k0]
      by_cases k1 : keyS l (i : Int) [40] = true
      · rw [if_pos k1]
        have hin := key_in k1
        have b := mb_M hl (n := n) (i := i + 1) (by omega)
        have f := ihM (i + 1) (by omega)
        generalize mMod l n (i + 1) = g1 at *
        obtain ⟨g1a, g1b, _⟩ := b
        refine yes_bnd fun h1 => ?_
        have f1 := f h1
        have b := bw_ks l [[41]] (g1.2.1) (by omega)
        generalize ks l [[41]] (g1.2.1) = g2 at *
        obtain ⟨g2a, g2b⟩ := b
        refine yes_bnd fun h2 => ?_
        exact fun _ => f1
      rw [if_neg k1]
      by_cases k2 : (nameS l (i : Int)).2 = true ∧ keyS l ((i + 1 : Nat) : Int) [40] = true
      · rw [if_pos k2]
        have hin := key_in k2.2
        have b := mb_M hl (n := n) (i := i + 2) (by omega)
        have f := ihM (i + 2) (by omega)
        generalize mMod l n (i + 2) = g1 at *
        obtain ⟨g1a, g1b, _⟩ := b
        refine yes_bnd fun h1 => ?_
        have f1 := f h1
        have b := bw_ks l [[41]] (g1.2.1) (by omega)
        generalize ks l [[41]] (g1.2.1) = g2 at *
        obtain ⟨g2a, g2b⟩ := b
        refine yes_bnd fun h2 => ?_
        exact fun _ => mk_n1 (w := 109) (d := 3) rfl rfl (name_ck k2.1) f1
      rw [if_neg k2]
      have b := bw_lg (l := l) (i := i) (by omega)
      have cN := lg_ck (l := l) (i := i)
      generalize lgR l (i) = g1 at *
      obtain ⟨g1a, g1b⟩ := b
      refine yes_bnd fun h1 => ?_
      have c1 := cN h1
      exact fun _ => mk_l0 rfl c1
    · rw [mSig]
      have b := mb_B hl (n := n) (i := i) (by omega)
      have f := ihB (i) (by omega)
      generalize mBody l n (i) = g1 at *
      obtain ⟨g1a, g1b, _⟩ := b
      refine yes_bnd fun h1 => ?_
      have f1 := f h1
      exact ihSL g1.2.1 g1b g1.1 f1
    · rw [mSigL]
      by_cases k0 : keyS l (i : Int) kWhere = true
      · rw [if_pos k0]
        have hin := key_in k0
        have b := bw_ks l [kType] (i + 1) (by omega)
        generalize ks l [kType] (i + 1) = g1 at *
        obtain ⟨g1a, g1b⟩ := b
        refine yes_bnd fun h1 => ?_
        have b := bw_lg (l := l) (i := g1.2.1) (by omega)
        have cN := lg_ck (l := l) (i := g1.2.1)
        generalize lgR l (g1.2.1) = g2 at *
        obtain ⟨g2a, g2b⟩ := b
        refine yes_bnd fun h2 => ?_
        have c2 := cN h2
        have b := bw_ks l [[61]] (g2.2.1) (by omega)
        generalize ks l [[61]] (g2.2.1) = g3 at *
        obtain ⟨g3a, g3b⟩ := b
        refine yes_bnd fun h3 => ?_
        have b := ty_pz hl (i := g3.2.1) (by omega)
        have f := ty_is hl (i := g3.2.1) (by omega)
        generalize tyR l (g3.2.1) = g4 at *
        obtain ⟨g4a, g4b, _⟩ := b
        refine yes_bnd fun h4 => ?_
        have f4 := f h4
        exact ihSL g4.2.1 g4b _ (mk_where c2 hm f4)
      rw [if_neg k0]
      exact fun _ => hm
    · rw [mBody]
      by_cases k0 : keyS l (i : Int) kSg = true
      · rw [if_pos k0]
        have hin := key_in k0
        have b := mb_Ss hl (n := n) (out := []) (i := i + 1) (by omega)
        have f := ihSs [] (i + 1) (by omega) (fun y hy => by cases hy)
        generalize mSpecs l n [] (i + 1) = g1 at *
        obtain ⟨g1a, g1b, g1c⟩ := b
        refine yes_bnd fun h1 => ?_
        have f1 := f h1
        have g1c := g1c h1
        rw [wL_nil] at g1c
        have n1 := wL_len g1.1
        have b := bw_ks l [kEnd] (g1.2.1) (by omega)
        generalize ks l [kEnd] (g1.2.1) = g2 at *
        obtain ⟨g2a, g2b⟩ := b
        refine yes_bnd fun h2 => ?_
        exact fun _ => mk_body f1 (by omega)
      rw [if_neg k0]
      have b := bw_nm (l := l) (i := i) (by omega)
      have cN := nm_ck (l := l) (i := i)
      generalize nmR l (i) = g1 at *
      obtain ⟨g1a, g1b⟩ := b
      refine yes_bnd fun h1 => ?_
      have c1 := cN h1
      exact fun _ => mk_n0 rfl c1
    · rw [mSpecs]
      by_cases k0 : anyK l i [kVal, kType, kData, kStr, kInc, kShare] = true
      · rw [if_pos k0]
        have b := mb_Sp hl (n := n) (i := i) (by omega)
        have f := ihSp i (by omega)
        generalize mSpec l n i = g1 at *
        obtain ⟨g1a, g1b, _⟩ := b
        refine yes_bnd fun h1 => ?_
        have f1 := f h1
        exact ihSs (out ++ [g1.1]) g1.2.1 g1b (fun x hx => by
          rcases List.mem_append.1 hx with hx | hx
          · exact ho x hx
          · rw [List.mem_singleton.1 hx]; exact f1)
      rw [if_neg k0]
      exact fun _ => ho
    · rw [mSpec]
      by_cases k0 : keyS l (i : Int) kVal = true
      · rw [if_pos k0]
        have hin := key_in k0
        have b := bw_nm (l := l) (i := i + 1) (by omega)
        have cN := nm_ck (l := l) (i := i + 1)
        generalize nmR l (i + 1) = g1 at *
        obtain ⟨g1a, g1b⟩ := b
        refine yes_bnd fun h1 => ?_
        have c1 := cN h1
        have b := kt_pz (s := [58]) (f := fun j => tyR l j) (i := g1.2.1) (by omega) (fun j hj => ty_pz hl hj)
        have f := kt_is (s := [58]) (f := fun j => tyR l j) (i := g1.2.1) (by omega) (fun j hj => ty_is hl hj)
        generalize bhd .nil l [58] (fun j => tyR l j) (g1.2.1) = g2 at *
        obtain ⟨g2a, g2b, _⟩ := b
        refine yes_bnd fun h2 => ?_
        have f2 := f h2
        exact fun _ => mk_n1 (w := 116) (d := 1) rfl rfl c1 f2
      rw [if_neg k0]
      by_cases k1 : keyS l (i : Int) kType = true
      · rw [if_pos k1]
        have hin := key_in k1
        have b := bw_nm (l := l) (i := i + 1) (by omega)
        have cN := nm_ck (l := l) (i := i + 1)
        generalize nmR l (i + 1) = g1 at *
        obtain ⟨g1a, g1b⟩ := b
        refine yes_bnd fun h1 => ?_
        have c1 := cN h1
        by_cases j1 : keyS l (g1.2.1 : Int) [61] = true
        · rw [if_pos j1]
          have hin2 := key_in j1
          have b := ty_pz hl (i := g1.2.1 + 1) (by omega)
          have f := ty_is hl (i := g1.2.1 + 1) (by omega)
          generalize tyR l (g1.2.1 + 1) = g2 at *
          obtain ⟨g2a, g2b, _⟩ := b
          refine yes_bnd fun h2 => ?_
          have f2 := f h2
          exact fun _ => mk_pty1 c1 f2
        rw [if_neg j1]
        exact fun _ => mk_pty0 c1
      rw [if_neg k1]
      by_cases k2 : keyS l (i : Int) kData = true
      · rw [if_pos k2]
        have hin := key_in k2
        have b := bw_nm (l := l) (i := i + 1) (by omega)
        have cN := nm_ck (l := l) (i := i + 1)
        generalize nmR l (i + 1) = g1 at *
        obtain ⟨g1a, g1b⟩ := b
        refine yes_bnd fun h1 => ?_
        have c1 := cN h1
        have b := bw_ks l [[61]] (g1.2.1) (by omega)
        generalize ks l [[61]] (g1.2.1) = g2 at *
        obtain ⟨g2a, g2b⟩ := b
        refine yes_bnd fun h2 => ?_
        have b := cn_pq hl (i := g2.2.1) (by omega)
        have f := cn_is hl (i := g2.2.1) (by omega)
        generalize cnR l (g2.2.1) = g3 at *
        obtain ⟨g3a, g3b, _⟩ := b
        refine yes_bnd fun h3 => ?_
        have f3 := f h3
        exact fun _ => mk_data rfl c1 f3
      rw [if_neg k2]
      by_cases k3 : keyS l (i : Int) kStr = true
      · rw [if_pos k3]
        have hin := key_in k3
        have b := bw_nm (l := l) (i := i + 1) (by omega)
        have cN := nm_ck (l := l) (i := i + 1)
        generalize nmR l (i + 1) = g1 at *
        obtain ⟨g1a, g1b⟩ := b
        refine yes_bnd fun h1 => ?_
        have c1 := cN h1
        have b := kt_pz (s := [58]) (f := fun j => mSig l n j) (i := g1.2.1) (by omega) (fun j hj => mb_S hl hj)
        have f := kt_is (s := [58]) (f := fun j => mSig l n j) (i := g1.2.1) (by omega) (fun j hj => ihS j hj)
        generalize bhd .nil l [58] (fun j => mSig l n j) (g1.2.1) = g2 at *
        obtain ⟨g2a, g2b, _⟩ := b
        refine yes_bnd fun h2 => ?_
        have f2 := f h2
        exact fun _ => mk_n1 (w := 115) (d := 4) rfl rfl c1 f2
      rw [if_neg k3]
      by_cases k4 : keyS l (i : Int) kInc = true
      · rw [if_pos k4]
        have hin := key_in k4
        have b := mb_S hl (n := n) (i := i + 1) (by omega)
        have f := ihS (i + 1) (by omega)
        generalize mSig l n (i + 1) = g1 at *
        obtain ⟨g1a, g1b, _⟩ := b
        refine yes_bnd fun h1 => ?_
        have f1 := f h1
        exact fun _ => mk_e1 (w := 115) (d := 4) rfl rfl f1
      rw [if_neg k4]
      by_cases k5 : keyS l (i : Int) kShare = true
      · rw [if_pos k5]
        have hin := key_in k5
        have b := bw_ks l [kType] (i + 1) (by omega)
        generalize ks l [kType] (i + 1) = g1 at *
        obtain ⟨g1a, g1b⟩ := b
        refine yes_bnd fun h1 => ?_
        have b := bw_lg (l := l) (i := g1.2.1) (by omega)
        have cN := lg_ck (l := l) (i := g1.2.1)
        generalize lgR l (g1.2.1) = g2 at *
        obtain ⟨g2a, g2b⟩ := b
        refine yes_bnd fun h2 => ?_
        have c2 := cN h2
        have b := bw_ks l [[61]] (g2.2.1) (by omega)
        generalize ks l [[61]] (g2.2.1) = g3 at *
        obtain ⟨g3a, g3b⟩ := b
        refine yes_bnd fun h3 => ?_
        have b := bw_lg (l := l) (i := g3.2.1) (by omega)
        have cN := lg_ck (l := l) (i := g3.2.1)
        generalize lgR l (g3.2.1) = g4 at *
        obtain ⟨g4a, g4b⟩ := b
        refine yes_bnd fun h4 => ?_
        have c4 := cN h4
        exact fun _ => mk_share c2 c4
      rw [if_neg k5]
      exact fun h => absurd (show (6 : Int) = 0 from h) (by decide)
    · rw [mDecls]
      by_cases k0 : (anyK l i [kVal, kType, kData, kStr, kOpen, kInc] || (top && anyK l i [kSig, kFun])) = true
      · rw [if_pos k0]
        have b := mb_D hl (n := n) (top := top) (i := i) (by omega)
        have f := ihD top i (by omega)
        generalize mDecl l n top i = g1 at *
        obtain ⟨g1a, g1b, _⟩ := b
        refine yes_bnd fun h1 => ?_
        have f1 := f h1
        exact ihDs top (out ++ [g1.1]) g1.2.1 g1b (fun x hx => by
          rcases List.mem_append.1 hx with hx | hx
          · exact ho x hx
          · rw [List.mem_singleton.1 hx]; exact f1)
      rw [if_neg k0]
      exact fun _ => ho
    · rw [mDecl]
      by_cases k0 : keyS l (i : Int) kVal = true
      · rw [if_pos k0]
        have hin := key_in k0
        have b := bw_nm (l := l) (i := i + 1) (by omega)
        have cN := nm_ck (l := l) (i := i + 1)
        generalize nmR l (i + 1) = g1 at *
        obtain ⟨g1a, g1b⟩ := b
        refine yes_bnd fun h1 => ?_
        have c1 := cN h1
        by_cases j0 : keyS l (g1.2.1 : Int) [58] = true
        · rw [if_pos j0]
          have hin2 := key_in j0
          have b := ty_pz hl (i := g1.2.1 + 1) (by omega)
          have f := ty_is hl (i := g1.2.1 + 1) (by omega)
          generalize tyR l (g1.2.1 + 1) = g2 at *
          obtain ⟨g2a, g2b, _⟩ := b
          refine yes_bnd fun h2 => ?_
          have f2 := f h2
          have b := kt_pz (s := [61]) (f := fun j => exR l j) (i := g2.2.1) (by omega) (fun j hj => ex_pz hl hj)
          have f := kt_is (s := [61]) (f := fun j => exR l j) (i := g2.2.1) (by omega) (fun j hj => ex_is hl hj)
          generalize bhd .nil l [61] (fun j => exR l j) (g2.2.1) = g3 at *
          obtain ⟨g3a, g3b, _⟩ := b
          refine yes_bnd fun h3 => ?_
          have f3 := f h3
          exact fun _ => ⟨mk_val2 c1 f2 f3, fun _ => kd (by decide)⟩
        rw [if_neg j0]
        have b := kt_pz (s := [61]) (f := fun j => exR l j) (i := g1.2.1) (by omega) (fun j hj => ex_pz hl hj)
        have f := kt_is (s := [61]) (f := fun j => exR l j) (i := g1.2.1) (by omega) (fun j hj => ex_is hl hj)
        generalize bhd .nil l [61] (fun j => exR l j) (g1.2.1) = g2 at *
        obtain ⟨g2a, g2b, _⟩ := b
        refine yes_bnd fun h2 => ?_
        have f2 := f h2
        exact fun _ => ⟨mk_val1 c1 f2, fun _ => kd (by decide)⟩
      rw [if_neg k0]
      by_cases k1 : keyS l (i : Int) kType = true
      · rw [if_pos k1]
        have hin := key_in k1
        have b := bw_nm (l := l) (i := i + 1) (by omega)
        have cN := nm_ck (l := l) (i := i + 1)
        generalize nmR l (i + 1) = g1 at *
        obtain ⟨g1a, g1b⟩ := b
        refine yes_bnd fun h1 => ?_
        have c1 := cN h1
        have b := kt_pz (s := [61]) (f := fun j => tyR l j) (i := g1.2.1) (by omega) (fun j hj => ty_pz hl hj)
        have f := kt_is (s := [61]) (f := fun j => tyR l j) (i := g1.2.1) (by omega) (fun j hj => ty_is hl hj)
        generalize bhd .nil l [61] (fun j => tyR l j) (g1.2.1) = g2 at *
        obtain ⟨g2a, g2b, _⟩ := b
        refine yes_bnd fun h2 => ?_
        have f2 := f h2
        exact fun _ => ⟨mk_n1 (w := 116) (d := 1) rfl rfl c1 f2, fun _ => kd (by decide)⟩
      rw [if_neg k1]
      by_cases k2 : keyS l (i : Int) kData = true
      · rw [if_pos k2]
        have hin := key_in k2
        have b := bw_nm (l := l) (i := i + 1) (by omega)
        have cN := nm_ck (l := l) (i := i + 1)
        generalize nmR l (i + 1) = g1 at *
        obtain ⟨g1a, g1b⟩ := b
        refine yes_bnd fun h1 => ?_
        have c1 := cN h1
        have b := bw_ks l [[61]] (g1.2.1) (by omega)
        generalize ks l [[61]] (g1.2.1) = g2 at *
        obtain ⟨g2a, g2b⟩ := b
        refine yes_bnd fun h2 => ?_
        have b := cn_pq hl (i := g2.2.1) (by omega)
        have f := cn_is hl (i := g2.2.1) (by omega)
        generalize cnR l (g2.2.1) = g3 at *
        obtain ⟨g3a, g3b, _⟩ := b
        refine yes_bnd fun h3 => ?_
        have f3 := f h3
        exact fun _ => ⟨mk_data rfl c1 f3, fun _ => kd (by decide)⟩
      rw [if_neg k2]
      by_cases k3 : keyS l (i : Int) kStr = true
      · rw [if_pos k3]
        have hin := key_in k3
        have b := bw_nm (l := l) (i := i + 1) (by omega)
        have cN := nm_ck (l := l) (i := i + 1)
        generalize nmR l (i + 1) = g1 at *
        obtain ⟨g1a, g1b⟩ := b
        refine yes_bnd fun h1 => ?_
        have c1 := cN h1
        have b := kt_pz (s := [61]) (f := fun j => mMod l n j) (i := g1.2.1) (by omega) (fun j hj => mb_M hl hj)
        have f := kt_is (s := [61]) (f := fun j => mMod l n j) (i := g1.2.1) (by omega) (fun j hj => ihM j hj)
        generalize bhd .nil l [61] (fun j => mMod l n j) (g1.2.1) = g2 at *
        obtain ⟨g2a, g2b, _⟩ := b
        refine yes_bnd fun h2 => ?_
        have f2 := f h2
        exact fun _ => ⟨mk_n1 (w := 109) (d := 3) rfl rfl c1 f2, fun _ => kd (by decide)⟩
      rw [if_neg k3]
      by_cases k4 : keyS l (i : Int) kOpen = true
      · rw [if_pos k4]
        have hin := key_in k4
        have b := bw_lg (l := l) (i := i + 1) (by omega)
        have cN := lg_ck (l := l) (i := i + 1)
        generalize lgR l (i + 1) = g1 at *
        obtain ⟨g1a, g1b⟩ := b
        refine yes_bnd fun h1 => ?_
        have c1 := cN h1
        exact fun _ => ⟨mk_l0 rfl c1, fun _ => kd (by decide)⟩
      rw [if_neg k4]
      by_cases k5 : keyS l (i : Int) kInc = true
      · rw [if_pos k5]
        have hin := key_in k5
        have b := bw_lg (l := l) (i := i + 1) (by omega)
        have cN := lg_ck (l := l) (i := i + 1)
        generalize lgR l (i + 1) = g1 at *
        obtain ⟨g1a, g1b⟩ := b
        refine yes_bnd fun h1 => ?_
        have c1 := cN h1
        exact fun _ => ⟨mk_l0 rfl c1, fun _ => kd (by decide)⟩
      rw [if_neg k5]
      by_cases k6 : top = true ∧ keyS l (i : Int) kSig = true
      · rw [if_pos k6]
        have hin := key_in k6.2
        have b := bw_nm (l := l) (i := i + 1) (by omega)
        have cN := nm_ck (l := l) (i := i + 1)
        generalize nmR l (i + 1) = g1 at *
        obtain ⟨g1a, g1b⟩ := b
        refine yes_bnd fun h1 => ?_
        have c1 := cN h1
        have b := kt_pz (s := [61]) (f := fun j => mSig l n j) (i := g1.2.1) (by omega) (fun j hj => mb_S hl hj)
        have f := kt_is (s := [61]) (f := fun j => mSig l n j) (i := g1.2.1) (by omega) (fun j hj => ihS j hj)
        generalize bhd .nil l [61] (fun j => mSig l n j) (g1.2.1) = g2 at *
        obtain ⟨g2a, g2b, _⟩ := b
        refine yes_bnd fun h2 => ?_
        have f2 := f h2
        exact fun _ => ⟨mk_n1 (w := 115) (d := 4) rfl rfl c1 f2, fun e => absurd (e.symm.trans k6.1) (by decide)⟩
      rw [if_neg k6]
      by_cases k7 : top = true ∧ keyS l (i : Int) kFun = true
      · rw [if_pos k7]
        have hin := key_in k7.2
        have b := bw_nm (l := l) (i := i + 1) (by omega)
        have cN := nm_ck (l := l) (i := i + 1)
        generalize nmR l (i + 1) = g1 at *
        obtain ⟨g1a, g1b⟩ := b
        refine yes_bnd fun h1 => ?_
        have c1 := cN h1
        have b := bw_ks l [[40]] (g1.2.1) (by omega)
        generalize ks l [[40]] (g1.2.1) = g2 at *
        obtain ⟨g2a, g2b⟩ := b
        refine yes_bnd fun h2 => ?_
        have b := bw_nm (l := l) (i := g2.2.1) (by omega)
        have cN := nm_ck (l := l) (i := g2.2.1)
        generalize nmR l (g2.2.1) = g3 at *
        obtain ⟨g3a, g3b⟩ := b
        refine yes_bnd fun h3 => ?_
        have c3 := cN h3
        have b := kt_pz (s := [58]) (f := fun j => mSig l n j) (i := g3.2.1) (by omega) (fun j hj => mb_S hl hj)
        have f := kt_is (s := [58]) (f := fun j => mSig l n j) (i := g3.2.1) (by omega) (fun j hj => ihS j hj)
        generalize bhd .nil l [58] (fun j => mSig l n j) (g3.2.1) = g4 at *
        obtain ⟨g4a, g4b, _⟩ := b
        refine yes_bnd fun h4 => ?_
        have f4 := f h4
        have b := bw_ks l [[41]] (g4.2.1) (by omega)
        generalize ks l [[41]] (g4.2.1) = g5 at *
        obtain ⟨g5a, g5b⟩ := b
        refine yes_bnd fun h5 => ?_
        have b := kt_pz (s := [61]) (f := fun j => mMod l n j) (i := g5.2.1) (by omega) (fun j hj => mb_M hl hj)
        have f := kt_is (s := [61]) (f := fun j => mMod l n j) (i := g5.2.1) (by omega) (fun j hj => ihM j hj)
        generalize bhd .nil l [61] (fun j => mMod l n j) (g5.2.1) = g6 at *
        obtain ⟨g6a, g6b, _⟩ := b
        refine yes_bnd fun h6 => ?_
        have f6 := f h6
        exact fun _ => ⟨mk_fun c1 c3 f4 f6, fun e => absurd (e.symm.trans k7.1) (by decide)⟩
      rw [if_neg k7]
      exact fun h => absurd (show (6 : Int) = 0 from h) (by decide)
end
end Go.Proofs.YtnogkihchgnbcaaGreatDoor

/- A program's text: its tree, or where it is refused. -/
namespace Go.Proofs.YtnogkihchgnbcaaGreatDoor
open Go Go.Am Go.Sx
abbrev progT (ks : List Tr) : Tr := .node 80 0 [] [] ks
def srcA (s : List UInt8) (l : List Token) (g : LT) : Tr × Int × Int :=
  if g.2.2 = 0 ∧ g.2.1 = l.length then (if 8192 < sizeT (progT g.1) then (.nil, 0, 3) else if 60 < deepT (progT g.1) then (.nil, 0, 7) else (progT g.1, 0, 0))
  else (.nil, (if g.2.1 < l.length then (l.getD g.2.1 (0, [], 0, 0)).2.2.2 else ((s.length : Nat) : Int)), if g.2.2 = 0 then 6 else g.2.2)
theorem lex_len {s : List UInt8} {l : List Token} (h : lxS s 0 [] = (l, 0, 0)) : l.length ≤ s.length ∧ ∀ t ∈ l, TkG (t.1, t.2.1) t.2.2.1 ∧ 0 ≤ t.2.2.2 ∧ t.2.2.2 < ((s.length : Nat) : Int) := by
  rcases lxS_bd _ s 0 [] (Nat.le_refl _) with ⟨_, _, m, h1, h2, h3⟩ | ⟨j, h1, _⟩
  · rw [h, List.nil_append] at h1
    obtain rfl : l = m := h1
    exact ⟨h2, fun t ht => ⟨(h3 t ht).1, by have := (h3 t ht).2; omega, by have := (h3 t ht).2; omega⟩⟩
  · rw [h] at h1; exact absurd (show (0 : Int) = 5 from congrArg (·.2.2) h1) (by decide)
theorem ev_src_c0 {s : List UInt8} {l : List Token} (hl : l.length ≤ 20000) {g : LT} (hj : g.2.1 ≤ l.length) (hw : g.2.2 = 0 → wL g.1 ≤ 1048576) :
    Ev (fun K => iteS (decide (g.2.2 = 0)) (iteS (decide (((g.2.1 : Nat) : Int) < ((l.length : Nat) : Int))) (pmod_Source_c0 K s 6 l (if g.2.2 = 0 then g.1 else []) ((g.2.1 : Nat) : Int)) (pmod_Source_c0 K s g.2.2 l (if g.2.2 = 0 then g.1 else []) ((g.2.1 : Nat) : Int))) (pmod_Source_c0 K s g.2.2 l (if g.2.2 = 0 then g.1 else []) ((g.2.1 : Nat) : Int))) (srcA s l g) := by
  obtain ⟨ks, j, e⟩ := g
  simp only at hj hw ⊢
  have bad : ∀ (k : List Tr) (c : Int), c ≠ 0 → Ev (fun K => pmod_Source_c0 K s c l k (j : Int)) (.nil, (if j < l.length then (l.getD j (0, [], 0, 0)).2.2.2 else ((s.length : Nat) : Int)), c) := fun k c hc => by
    refine Ev.step (fun k => by rw [pmod_Source_c0]) ?_
    refine Ev.nT hc ?_
    refine Ev.d (fun h => ?_) (fun h => ?_)
    · refine Ev.opt (getI_lt (by omega)) (Ev.pure' ?_)
      rw [if_pos (by omega)]
      congr 3
      rw [List.getD_eq_getElem?_getD, List.getElem?_eq_getElem (by omega)]; rfl
    · rw [if_neg (by omega)]; exact Ev.pure
  unfold srcA
  simp only
  by_cases he : e = 0
  · subst he
    refine Ev.dT rfl ?_
    refine Ev.d (fun h => ?_) (fun h => ?_)
    · rw [if_neg (show ¬ ((0 : Int) = 0 ∧ j = l.length) from fun h' => by omega)]
      exact bad _ 6 (by decide)
    · have hj' : j = l.length := by omega
      rw [if_pos (show (0 : Int) = 0 ∧ j = l.length from ⟨rfl, hj'⟩)]
      have hw := hw rfl
      have hwp : (progT ks).w ≤ 1099511627776 := by rw [w_node]; omega
      refine Ev.step (fun k => by rw [pmod_Source_c0]) ?_
      refine Ev.nF rfl ?_
      rw [if_pos rfl]
      refine Ev.bind (nodeM _ _ _) ?_
      refine Ev.bind (ev_size (progT ks) hwp) ?_
      have es := ev_deep (progT ks) hwp
      generalize sizeT (progT ks) = q1
      generalize deepT (progT ks) = q2 at es ⊢
      refine Ev.d (fun h1 => ?_) (fun h1 => ?_)
      · rw [if_pos (show 8192 < q1 by omega)]; exact Ev.pure
      rw [if_neg (show ¬ 8192 < q1 by omega)]
      refine Ev.bind es ?_
      refine Ev.d (fun h2 => ?_) (fun h2 => ?_)
      · rw [if_pos (show 60 < q2 by omega)]; exact Ev.pure
      · rw [if_neg (show ¬ 60 < q2 by omega)]; exact Ev.pure
  · refine Ev.dF he ?_
    rw [if_neg (show ¬ (e = 0 ∧ j = l.length) from fun h => he h.1), if_neg he, if_neg he]
    exact bad _ e he
/-- a text that is read and told -/
theorem ev_src {s : List UInt8} {l : List Token} {n : Nat} (hs : s.length ≤ 16384) (hr : Rk s) (h : lxS s 0 [] = (l, 0, 0)) (hn : 8 * l.length + 2 ≤ n) : Ev (fun K => pmod_Source K s) (srcA s l (mDecls l n true [] 0)) := by
  obtain ⟨h1, h2⟩ := lex_len h
  have hl : l.length ≤ 20000 := by omega
  have hx : Ev (fun K => lexer_Lex K s) (l, 0, 0) := by
    rcases ev_lex_all hs with ⟨_, a⟩ | ⟨a, _⟩
    · rw [h] at a; exact a
    · exact absurd hr a
  refine Ev.congr (f := fun K => _) ?_ (fun K => by rw [pmod_Source])
  refine Ev.bind hx ?_
  refine Ev.nF rfl ?_
  refine Ev.bind (decls_p hl (i := 0) (n := n) (by omega) (by omega)) ?_
  have b := mb_Ds hl (n := n) (top := true) (out := []) (i := 0) (Nat.zero_le _)
  obtain ⟨_, b2, b3⟩ := b
  exact ev_src_c0 hl b2 (fun he => by have := b3 he; rw [wL_nil] at this; omega)
/-- a text that is not -/
theorem ev_src_no {s : List UInt8} (hs : s.length ≤ 16384) (h : ¬ (Rk s ∧ ∃ l, lxS s 0 [] = (l, 0, 0))) : ∃ (j : Nat) (e : Int), e ≠ 0 ∧ j ≤ s.length ∧ Ev (fun K => lexer_Lex K s) ([], (j : Int), e) ∧ Ev (fun K => pmod_Source K s) (.nil, (j : Int), e) := by
  have go : ∀ (j : Nat) (e : Int), e ≠ 0 → Ev (fun K => lexer_Lex K s) ([], (j : Int), e) → Ev (fun K => pmod_Source K s) (.nil, (j : Int), e) := fun j e he hx => by
    refine Ev.congr (f := fun K => _) ?_ (fun K => by rw [pmod_Source])
    refine Ev.bind hx ?_
    exact Ev.nT he Ev.pure
  rcases ev_lex_all hs with ⟨a, b⟩ | ⟨_, j, c, d⟩
  · rcases lxS_bd _ s 0 [] (Nat.le_refl _) with ⟨h1, h2, _⟩ | ⟨j, h1, h2⟩
    · refine absurd ⟨a, (lxS s 0 []).1, ?_⟩ h
      generalize lxS s 0 [] = g at *
      obtain ⟨x, y, z⟩ := g
      simp only at h1 h2
      rw [h1, h2]
    · rw [h1] at b
      exact ⟨j, 5, by decide, by omega, b, go j 5 (by decide) b⟩
  · exact ⟨j, 4, by decide, c, d, go j 4 (by decide) d⟩
end Go.Proofs.YtnogkihchgnbcaaGreatDoor

/- The law PmodForms. -/
namespace Go.Proofs.YtnogkihchgnbcaaGreatDoor
open Go Go.Am Go.Sx
theorem ev_Prog {t : Tr} (h : Fine t) : Ev (fun K => shape_Prog K t) (chk 7 t) := Ev.congr (f := fun _K => _) (Ev.ret (Ev.congr (f := fun _K => _) (ev_chk (f := shape_isProg) h fun g => ev_prog t g) (fun _ => rfl))) (fun _ => rfl)
/-- The plain law PmodForms. -/
theorem law08_PmodForms_true (s : List UInt8) : ∃ K, law08_PmodForms K s = some true := by
  refine Ev.get (f := fun K => law08_PmodForms K s) ?_
  refine Ev.congr (f := fun K => _) ?_ (fun k => by rw [law08_PmodForms])
  refine Ev.opt (sub_min (m := 2000)) ?_
  have hs : (s.take 2000).length ≤ 2000 := by rw [List.length_take]; omega
  generalize s.take 2000 = s at *
  have no : ∀ (j : Int) (e : Int), e ≠ 0 → 0 ≤ j → j ≤ ((s.length : Nat) : Int) → Ev (fun K => pmod_Source K s) (.nil, j, e) → Ev (fun K => (pmod_Source K s).bind fun (v2, v3, v4) => (iteS (!decide (v4 = 0)) (match v2 with | .nil => (iteS (decide (0 ≤ v3)) (iteS (decide (v3 ≤ ((s.length : Nat) : Int))) ((law08_works K).bind fun v10 => (some v10)) (some false)) (some false)) | .node _ _ _ _ _ => (some false)) (iteS (decide (v3 = 0)) ((shape_Prog K v2).bind fun v11 => (iteS (decide (v11 = 0)) ((law08_works K).bind fun v12 => (some v12)) (some false))) (some false)))) true := fun j e he h0 h1 hx => by
    refine Ev.bind hx ?_
    refine Ev.nT he ?_
    refine Ev.dT h0 ?_
    refine Ev.dT h1 ?_
    exact Ev.ret ev_works8
  by_cases h : Rk s ∧ ∃ l, lxS s 0 [] = (l, 0, 0)
  · obtain ⟨hr, l, hx⟩ := h
    obtain ⟨hl, ht⟩ := lex_len hx
    have hl2 : l.length ≤ 20000 := by omega
    have hsrc := ev_src (n := 8 * l.length + 2) (by omega) hr hx (Nat.le_refl _)
    have b := mb_Ds hl2 (n := 8 * l.length + 2) (top := true) (out := []) (i := 0) (Nat.zero_le _)
    have f := (m_fm hl2 (8 * l.length + 2) 0 (Nat.zero_le _)).2.2.2.2.2.2.2.2.1 true [] (fun y hy => by cases hy)
    generalize mDecls l (8 * l.length + 2) true [] 0 = g at *
    obtain ⟨ks, j, e⟩ := g
    obtain ⟨_, b2, b3⟩ := b
    simp only [wL_nil] at b2 b3
    unfold srcA at hsrc
    simp only at hsrc
    by_cases hg : e = 0 ∧ j = l.length
    · rw [if_pos hg] at hsrc
      obtain ⟨rfl, rfl⟩ := hg
      have b3 := b3 rfl
      have hk := wL_len ks
      obtain ⟨i1, i2⟩ := mk_prog (ks := ks) (f rfl) (by omega)
      by_cases h1 : 8192 < sizeT (progT ks)
      · rw [if_pos h1] at hsrc
        exact no _ _ (by decide) (by decide) (by omega) hsrc
      rw [if_neg h1] at hsrc
      by_cases h2 : 60 < deepT (progT ks)
      · rw [if_pos h2] at hsrc
        exact no _ _ (by decide) (by decide) (by omega) hsrc
      rw [if_neg h2] at hsrc
      refine Ev.bind hsrc ?_
      refine Ev.nF rfl ?_
      refine Ev.dT rfl ?_
      have hfull := good_full _ i2
      have hfine : Fine (progT ks) := ⟨by rw [w_node]; omega, fun _ => i2⟩
      have hp := ev_Prog hfine
      rw [chk_small hfull (Nat.le_of_not_lt h1) (Nat.le_of_not_lt h2), if_pos i1] at hp
      refine Ev.bind hp ?_
      refine Ev.dT rfl ?_
      exact Ev.ret ev_works8
    · rw [if_neg hg] at hsrc
      refine no _ _ ?_ ?_ ?_ hsrc
      · by_cases he : e = 0
        · rw [if_pos he]; decide
        · rw [if_neg he]; exact he
      · by_cases hj : j < l.length
        · rw [if_pos hj, List.getD_eq_getElem?_getD, List.getElem?_eq_getElem hj]
          exact (ht _ (List.getElem_mem hj)).2.1
        · rw [if_neg hj]; omega
      · by_cases hj : j < l.length
        · rw [if_pos hj, List.getD_eq_getElem?_getD, List.getElem?_eq_getElem hj]
          have := (ht _ (List.getElem_mem hj)).2.2
          exact Int.le_of_lt this
        · rw [if_neg hj]; exact Int.le_refl _
  · obtain ⟨j, e, he, hj, _, hx⟩ := ev_src_no (by omega) h
    exact no _ _ he (by omega) (by omega) hx
end Go.Proofs.YtnogkihchgnbcaaGreatDoor

