/- Joined texts: M1, M2, M3a. -/
import Derived.Test.YtnogkihchgnbcaaGreatDoorGy
/- The parser of modules as plain functions of the tokens. -/
namespace Go.Proofs.YtnogkihchgnbcaaGreatDoor
open Go Go.Am Go.Sx
abbrev LT := List Tr × Nat × Int
def lgR (l : List Token) (i : Nat) : List UInt8 × Nat × Int := if (longS l (i : Int)).2 = true then ((longS l (i : Int)).1, i + 1, 0) else ([], i, 6)
def exR (l : List Token) (i : Nat) : RT := eExpr l (8 * l.length + 6) i
def cnR (l : List Token) (i : Nat) : LT := consS l (3 * l.length + 3) i []
/-- a sign, and what stands behind it -/
def bhd {α : Type} (d : α) (l : List Token) (s : List UInt8) (f : Nat → α × Nat × Int) (i : Nat) : α × Nat × Int := bnd d (ks l [s] i) fun _ j => f j
/-- one of these words stands there -/
def anyK (l : List Token) (i : Nat) (t : List (List UInt8)) : Bool := t.any fun s => keyS l (i : Int) s
abbrev kVal : List UInt8 := [118, 97, 108]
abbrev kType : List UInt8 := [116, 121, 112, 101]
abbrev kData : List UInt8 := [100, 97, 116, 97, 116, 121, 112, 101]
abbrev kStr : List UInt8 := [115, 116, 114, 117, 99, 116, 117, 114, 101]
abbrev kInc : List UInt8 := [105, 110, 99, 108, 117, 100, 101]
abbrev kShare : List UInt8 := [115, 104, 97, 114, 105, 110, 103]
abbrev kOpen : List UInt8 := [111, 112, 101, 110]
abbrev kSig : List UInt8 := [115, 105, 103, 110, 97, 116, 117, 114, 101]
abbrev kFun : List UInt8 := [102, 117, 110, 99, 116, 111, 114]
abbrev kStruct : List UInt8 := [115, 116, 114, 117, 99, 116]
abbrev kSg : List UInt8 := [115, 105, 103]
abbrev kEnd : List UInt8 := [101, 110, 100]
abbrev kWhere : List UInt8 := [119, 104, 101, 114, 101]
mutual
def mMod (l : List Token) : Nat → Nat → RT
  | 0, i => (.nil, i, 6)
  | n + 1, i => bnd .nil (mPrim l n i) fun m i => mModL l n m i
def mModL (l : List Token) : Nat → Tr → Nat → RT
  | 0, _, i => (.nil, i, 6)
  | n + 1, m, i =>
    if keyS l (i : Int) [58] = true then bnd .nil (mSig l n (i + 1)) fun s i => mModL l n (.node 43 0 [] [] [m, s]) i
    else if keyS l (i : Int) [58, 62] = true then bnd .nil (mSig l n (i + 1)) fun s i => mModL l n (.node 43 1 [] [] [m, s]) i
    else (m, i, 0)
def mPrim (l : List Token) : Nat → Nat → RT
  | 0, i => (.nil, i, 6)
  | n + 1, i =>
    if keyS l (i : Int) kStruct = true then bnd .nil (mDecls l n false [] (i + 1)) fun k i => bnd .nil (ks l [kEnd] i) fun _ i => (.node 40 0 [] [] k, i, 0)
    else if keyS l (i : Int) [40] = true then bnd .nil (mMod l n (i + 1)) fun m i => bnd .nil (ks l [[41]] i) fun _ i => (m, i, 0)
    else if (nameS l (i : Int)).2 = true ∧ keyS l ((i + 1 : Nat) : Int) [40] = true then bnd .nil (mMod l n (i + 2)) fun m j => bnd .nil (ks l [[41]] j) fun _ j => (.node 42 0 (nameS l (i : Int)).1 [] [m], j, 0)
    else bnd .nil (lgR l i) fun s i => (.node 41 0 s [] [], i, 0)
def mSig (l : List Token) : Nat → Nat → RT
  | 0, i => (.nil, i, 6)
  | n + 1, i => bnd .nil (mBody l n i) fun s i => mSigL l n s i
def mSigL (l : List Token) : Nat → Tr → Nat → RT
  | 0, _, i => (.nil, i, 6)
  | n + 1, s, i =>
    if keyS l (i : Int) kWhere = true then bnd .nil (ks l [kType] (i + 1)) fun _ i => bnd .nil (lgR l i) fun g i => bnd .nil (ks l [[61]] i) fun _ i => bnd .nil (tyR l i) fun t i => mSigL l n (.node 52 0 g [] [s, t]) i
    else (s, i, 0)
def mBody (l : List Token) : Nat → Nat → RT
  | 0, i => (.nil, i, 6)
  | n + 1, i =>
    if keyS l (i : Int) kSg = true then bnd .nil (mSpecs l n [] (i + 1)) fun k i => bnd .nil (ks l [kEnd] i) fun _ i => (.node 50 0 [] [] k, i, 0)
    else bnd .nil (nmR l i) fun s i => (.node 51 0 s [] [], i, 0)
def mSpecs (l : List Token) : Nat → List Tr → Nat → LT
  | 0, _, i => ([], i, 6)
  | n + 1, out, i => if anyK l i [kVal, kType, kData, kStr, kInc, kShare] = true then bnd [] (mSpec l n i) fun k i => mSpecs l n (out ++ [k]) i else (out, i, 0)
def mSpec (l : List Token) : Nat → Nat → RT
  | 0, i => (.nil, i, 6)
  | n + 1, i =>
    if keyS l (i : Int) kVal = true then bnd .nil (nmR l (i + 1)) fun s i => bnd .nil (bhd .nil l [58] (fun j => tyR l j) i) fun t i => (.node 60 0 s [] [t], i, 0)
    else if keyS l (i : Int) kType = true then bnd .nil (nmR l (i + 1)) fun s i => if keyS l (i : Int) [61] = true then bnd .nil (tyR l (i + 1)) fun t i => (.node 61 0 s [] [t], i, 0) else (.node 61 0 s [] [], i, 0)
    else if keyS l (i : Int) kData = true then bnd .nil (nmR l (i + 1)) fun s i => bnd .nil (ks l [[61]] i) fun _ i => bnd .nil (cnR l i) fun k i => (.node 62 0 s [] k, i, 0)
    else if keyS l (i : Int) kStr = true then bnd .nil (nmR l (i + 1)) fun s i => bnd .nil (bhd .nil l [58] (fun j => mSig l n j) i) fun g i => (.node 63 0 s [] [g], i, 0)
    else if keyS l (i : Int) kInc = true then bnd .nil (mSig l n (i + 1)) fun g i => (.node 64 0 [] [] [g], i, 0)
    else if keyS l (i : Int) kShare = true then bnd .nil (ks l [kType] (i + 1)) fun _ i => bnd .nil (lgR l i) fun a i => bnd .nil (ks l [[61]] i) fun _ i => bnd .nil (lgR l i) fun b i => (.node 65 0 a b [], i, 0)
    else (.nil, i, 6)
def mDecls (l : List Token) : Nat → Bool → List Tr → Nat → LT
  | 0, _, _, i => ([], i, 6)
  | n + 1, top, out, i => if (anyK l i [kVal, kType, kData, kStr, kOpen, kInc] || (top && anyK l i [kSig, kFun])) = true then bnd [] (mDecl l n top i) fun k i => mDecls l n top (out ++ [k]) i else (out, i, 0)
def mDecl (l : List Token) : Nat → Bool → Nat → RT
  | 0, _, i => (.nil, i, 6)
  | n + 1, top, i =>
    if keyS l (i : Int) kVal = true then bnd .nil (nmR l (i + 1)) fun s i =>
      if keyS l (i : Int) [58] = true then bnd .nil (tyR l (i + 1)) fun t i => bnd .nil (bhd .nil l [61] (fun j => exR l j) i) fun e i => (.node 70 0 s [] [t, e], i, 0)
      else bnd .nil (bhd .nil l [61] (fun j => exR l j) i) fun e i => (.node 70 0 s [] [e], i, 0)
    else if keyS l (i : Int) kType = true then bnd .nil (nmR l (i + 1)) fun s i => bnd .nil (bhd .nil l [61] (fun j => tyR l j) i) fun t i => (.node 71 0 s [] [t], i, 0)
    else if keyS l (i : Int) kData = true then bnd .nil (nmR l (i + 1)) fun s i => bnd .nil (ks l [[61]] i) fun _ i => bnd .nil (cnR l i) fun k i => (.node 72 0 s [] k, i, 0)
    else if keyS l (i : Int) kStr = true then bnd .nil (nmR l (i + 1)) fun s i => bnd .nil (bhd .nil l [61] (fun j => mMod l n j) i) fun m i => (.node 73 0 s [] [m], i, 0)
    else if keyS l (i : Int) kOpen = true then bnd .nil (lgR l (i + 1)) fun s i => (.node 76 0 s [] [], i, 0)
    else if keyS l (i : Int) kInc = true then bnd .nil (lgR l (i + 1)) fun s i => (.node 77 0 s [] [], i, 0)
    else if top = true ∧ keyS l (i : Int) kSig = true then bnd .nil (nmR l (i + 1)) fun s i => bnd .nil (bhd .nil l [61] (fun j => mSig l n j) i) fun g i => (.node 74 0 s [] [g], i, 0)
    else if top = true ∧ keyS l (i : Int) kFun = true then bnd .nil (nmR l (i + 1)) fun s i => bnd .nil (ks l [[40]] i) fun _ i => bnd .nil (nmR l i) fun m i => bnd .nil (bhd .nil l [58] (fun j => mSig l n j) i) fun g i => bnd .nil (ks l [[41]] i) fun _ i => bnd .nil (bhd .nil l [61] (fun j => mMod l n j) i) fun d i => (.node 75 0 s m [g, d], i, 0)
    else (.nil, i, 6)
end
theorem bw_lg {l : List Token} {i : Nat} (h : i ≤ l.length) : Bw l i (lgR l i) := by
  unfold lgR
  by_cases hk : (longS l (i : Int)).2 = true
  · rw [if_pos hk]
    have := long_in hk
    exact ⟨by simp only; omega, by simp only; omega⟩
  · rw [if_neg hk]; exact ⟨Nat.le_refl _, h⟩
theorem lg_at {l : List Token} {i : Nat} (h : (lgR l i).2.2 = 0) : (lgR l i).2.1 = i + 1 := by
  unfold lgR at h ⊢
  by_cases hk : (longS l (i : Int)).2 = true
  · rw [if_pos hk]
  · rw [if_neg hk] at h; exact absurd (show (6 : Int) = 0 from h) (by decide)
end Go.Proofs.YtnogkihchgnbcaaGreatDoor

/- Where the parser of modules stands: bounds of its plain functions. Printed by gen8/m2.py. -/
namespace Go.Proofs.YtnogkihchgnbcaaGreatDoor
open Go Go.Am Go.Sx
/-- a list of trees from a place on, maybe none -/
def Pr (l : List Token) (i0 : Nat) (out : List Tr) (g : LT) : Prop := i0 ≤ g.2.1 ∧ g.2.1 ≤ l.length ∧ (g.2.2 = 0 → wL g.1 + 2 * i0 ≤ wL out + 2 * g.2.1)
theorem pr_bnd {α : Type} {l : List Token} {i0 : Nat} {out : List Tr} {r : α × Nat × Int} {f : α → Nat → LT} (h1 : i0 ≤ r.2.1) (h2 : r.2.1 ≤ l.length) (hf : r.2.2 = 0 → Pr l i0 out (f r.1 r.2.1)) : Pr l i0 out (bnd [] r f) := by
  unfold bnd
  by_cases h0 : r.2.2 = 0
  · rw [if_pos h0]; exact hf h0
  · rw [if_neg h0]; exact ⟨h1, h2, fun h => absurd h h0⟩
section
variable {l : List Token} (hl : l.length ≤ 20000)
include hl
theorem ex_pz {i : Nat} (hi : i ≤ l.length) : Pz l i (2 * i) (exR l i) := e_bd_eExpr hl _ i hi
theorem cn_pq {i : Nat} (hi : i ≤ l.length) : Pq l i [] 0 (cnR l i) := by
  obtain ⟨c', _, h5, h4, h3⟩ := (ps_all hl (3 * l.length + 3) i hi).2.2.2 (by omega) [] [] (fun s => by simp [lookupM]) (by simp)
  unfold cnR
  refine ⟨h4, h3, fun h => ?_⟩
  obtain ⟨_, h6, h7⟩ := h5 h
  exact ⟨h6, by omega⟩
omit hl in
theorem kt_pz {s : List UInt8} {f : Nat → RT} {i : Nat} (hi : i ≤ l.length) (hf : ∀ j, j ≤ l.length → Pz l j (2 * j) (f j)) : Pz l i (2 * i) (bhd .nil l s f i) := by
  have b := bw_ks l [s] i hi
  unfold bhd
  generalize ks l [s] i = g at *
  obtain ⟨b1, b2⟩ := b
  refine pz_bnd b1 b2 fun _ => ?_
  obtain ⟨c1, c2, c3⟩ := hf g.2.1 b2
  exact ⟨by omega, c2, fun h => by have := c3 h; omega⟩
theorem m_bd : ∀ n i, i ≤ l.length → Pz l i (2 * i) (mMod l n i) ∧ (∀ i0 lo m, i0 < i → m.w + 1 + lo ≤ 2 * i → Pz l i0 lo (mModL l n m i)) ∧ Pz l i (2 * i) (mPrim l n i) ∧ Pz l i (2 * i) (mSig l n i) ∧ (∀ i0 lo m, i0 < i → m.w + 1 + lo ≤ 2 * i → Pz l i0 lo (mSigL l n m i)) ∧
    Pz l i (2 * i) (mBody l n i) ∧ (∀ out, Pr l i out (mSpecs l n out i)) ∧ Pz l i (2 * i) (mSpec l n i) ∧ (∀ top out, Pr l i out (mDecls l n top out i)) ∧ (∀ top, Pz l i (2 * i) (mDecl l n top i)) := by
  intro n
  induction n with
  | zero =>
    intro i hi
    refine ⟨?_, fun i0 lo m h _ => ?_, ?_, ?_, fun i0 lo m h _ => ?_, ?_, fun out => ?_, ?_, fun top out => ?_, fun top => ?_⟩
    · rw [mMod]; exact pz_stop (Nat.le_refl _) hi (by decide)
    · rw [mModL]; exact pz_stop (by omega) hi (by decide)
    · rw [mPrim]; exact pz_stop (Nat.le_refl _) hi (by decide)
    · rw [mSig]; exact pz_stop (Nat.le_refl _) hi (by decide)
    · rw [mSigL]; exact pz_stop (by omega) hi (by decide)
    · rw [mBody]; exact pz_stop (Nat.le_refl _) hi (by decide)
    · rw [mSpecs]; exact ⟨Nat.le_refl _, hi, fun h => absurd (show (6 : Int) = 0 from h) (by decide)⟩
    · rw [mSpec]; exact pz_stop (Nat.le_refl _) hi (by decide)
    · rw [mDecls]; exact ⟨Nat.le_refl _, hi, fun h => absurd (show (6 : Int) = 0 from h) (by decide)⟩
    · rw [mDecl]; exact pz_stop (Nat.le_refl _) hi (by decide)
  | succ n ih =>
    intro i hi
    have ihM : ∀ j, j ≤ l.length → Pz l j (2 * j) (mMod l n j) := fun j h => (ih j h).1
    have ihML : ∀ j, j ≤ l.length → ∀ i0 lo m, i0 < j → m.w + 1 + lo ≤ 2 * j → Pz l i0 lo (mModL l n m j) := fun j h => (ih j h).2.1
    have ihP : ∀ j, j ≤ l.length → Pz l j (2 * j) (mPrim l n j) := fun j h => (ih j h).2.2.1
    have ihS : ∀ j, j ≤ l.length → Pz l j (2 * j) (mSig l n j) := fun j h => (ih j h).2.2.2.1
    have ihSL : ∀ j, j ≤ l.length → ∀ i0 lo m, i0 < j → m.w + 1 + lo ≤ 2 * j → Pz l i0 lo (mSigL l n m j) := fun j h => (ih j h).2.2.2.2.1
    have ihB : ∀ j, j ≤ l.length → Pz l j (2 * j) (mBody l n j) := fun j h => (ih j h).2.2.2.2.2.1
    have ihSs : ∀ out j, j ≤ l.length → Pr l j out (mSpecs l n out j) := fun out j h => (ih j h).2.2.2.2.2.2.1 out
    have ihSp : ∀ j, j ≤ l.length → Pz l j (2 * j) (mSpec l n j) := fun j h => (ih j h).2.2.2.2.2.2.2.1
    have ihDs : ∀ top out j, j ≤ l.length → Pr l j out (mDecls l n top out j) := fun top out j h => (ih j h).2.2.2.2.2.2.2.2.1 top out
    have ihD : ∀ top j, j ≤ l.length → Pz l j (2 * j) (mDecl l n top j) := fun top j h => (ih j h).2.2.2.2.2.2.2.2.2 top
    refine ⟨?_, fun i0 lo m ha hw => ?_, ?_, ?_, fun i0 lo m ha hw => ?_, ?_, fun out => ?_, ?_, fun top out => ?_, fun top => ?_⟩
    · rw [mMod]
      have b := ihP (i) (by omega)
      generalize mPrim l n (i) = g1 at *
      obtain ⟨g1a, g1b, g1c⟩ := b
      refine pz_bnd (by omega) g1b fun h1 => ?_
      have g1c := g1c h1
      exact ihML g1.2.1 g1b i (2 * i) g1.1 (by omega) (by omega)
    · rw [mModL]
      by_cases k0 : keyS l (i : Int) [58] = true
      · rw [if_pos k0]
        have hin := key_in k0
        have b := ihS (i + 1) (by omega)
        generalize mSig l n (i + 1) = g1 at *
        obtain ⟨g1a, g1b, g1c⟩ := b
        refine pz_bnd (by omega) g1b fun h1 => ?_
        have g1c := g1c h1
        exact ihML g1.2.1 g1b i0 lo _ (by omega) (by simp only [w_node, wL_cons, wL_nil]; omega)
      rw [if_neg k0]
      by_cases k1 : keyS l (i : Int) [58, 62] = true
      · rw [if_pos k1]
        have hin := key_in k1
        have b := ihS (i + 1) (by omega)
        generalize mSig l n (i + 1) = g1 at *
        obtain ⟨g1a, g1b, g1c⟩ := b
        refine pz_bnd (by omega) g1b fun h1 => ?_
        have g1c := g1c h1
        exact ihML g1.2.1 g1b i0 lo _ (by omega) (by simp only [w_node, wL_cons, wL_nil]; omega)
      rw [if_neg k1]
      exact ⟨by simp only; omega, hi, fun _ => ⟨by simp only; omega, hw⟩⟩
    · rw [mPrim]
      by_cases k0 : keyS l (i : Int) kStruct = true
      · rw [if_pos k0]
        have hin := key_in k0
        have b := ihDs false [] (i + 1) (by omega)
        generalize mDecls l n false [] (i + 1) = g1 at *
        obtain ⟨g1a, g1b, g1c⟩ := b
        refine pz_bnd (by omega) g1b fun h1 => ?_
        have g1c := g1c h1
        rw [wL_nil] at g1c
        have b := bw_ks l [kEnd] (g1.2.1) (by omega)
        generalize ks l [kEnd] (g1.2.1) = g2 at *
        obtain ⟨g2a, g2b⟩ := b
        refine pz_bnd (by omega) g2b fun h2 => ?_
        exact ⟨by simp only; omega, by simp only; omega, fun _ => ⟨by simp only; omega, by simp only [w_node, wL_cons, wL_nil]; omega⟩⟩
      rw [if_neg k0]
      by_cases k1 : keyS l (i : Int) [40] = true
      · rw [if_pos k1]
        have hin := key_in k1
        have b := ihM (i + 1) (by omega)
        generalize mMod l n (i + 1) = g1 at *
        obtain ⟨g1a, g1b, g1c⟩ := b
        refine pz_bnd (by omega) g1b fun h1 => ?_
        have g1c := g1c h1
        have b := bw_ks l [[41]] (g1.2.1) (by omega)
        generalize ks l [[41]] (g1.2.1) = g2 at *
        obtain ⟨g2a, g2b⟩ := b
        refine pz_bnd (by omega) g2b fun h2 => ?_
        exact ⟨by simp only; omega, by simp only; omega, fun _ => ⟨by simp only; omega, by simp only; omega⟩⟩
      rw [if_neg k1]
      by_cases k2 : (nameS l (i : Int)).2 = true ∧ keyS l ((i + 1 : Nat) : Int) [40] = true
      · rw [if_pos k2]
        have hin := key_in k2.2
        have b := ihM (i + 2) (by omega)
        generalize mMod l n (i + 2) = g1 at *
        obtain ⟨g1a, g1b, g1c⟩ := b
        refine pz_bnd (by omega) g1b fun h1 => ?_
        have g1c := g1c h1
        have b := bw_ks l [[41]] (g1.2.1) (by omega)
        generalize ks l [[41]] (g1.2.1) = g2 at *
        obtain ⟨g2a, g2b⟩ := b
        refine pz_bnd (by omega) g2b fun h2 => ?_
        exact ⟨by simp only; omega, by simp only; omega, fun _ => ⟨by simp only; omega, by simp only [w_node, wL_cons, wL_nil]; omega⟩⟩
      rw [if_neg k2]
      have b := bw_lg (l := l) (i := i) (by omega)
      have sN := lg_at (l := l) (i := i)
      generalize lgR l (i) = g1 at *
      obtain ⟨g1a, g1b⟩ := b
      refine pz_bnd (by omega) g1b fun h1 => ?_
      have s1 := sN h1
      exact ⟨by simp only; omega, by simp only; omega, fun _ => ⟨by simp only; omega, by simp only [w_node, wL_cons, wL_nil]; omega⟩⟩
    · rw [mSig]
      have b := ihB (i) (by omega)
      generalize mBody l n (i) = g1 at *
      obtain ⟨g1a, g1b, g1c⟩ := b
      refine pz_bnd (by omega) g1b fun h1 => ?_
      have g1c := g1c h1
      exact ihSL g1.2.1 g1b i (2 * i) g1.1 (by omega) (by omega)
    · rw [mSigL]
      by_cases k0 : keyS l (i : Int) kWhere = true
      · rw [if_pos k0]
        have hin := key_in k0
        have b := bw_ks l [kType] (i + 1) (by omega)
        generalize ks l [kType] (i + 1) = g1 at *
        obtain ⟨g1a, g1b⟩ := b
        refine pz_bnd (by omega) g1b fun h1 => ?_
        have b := bw_lg (l := l) (i := g1.2.1) (by omega)
        have sN := lg_at (l := l) (i := g1.2.1)
        generalize lgR l (g1.2.1) = g2 at *
        obtain ⟨g2a, g2b⟩ := b
        refine pz_bnd (by omega) g2b fun h2 => ?_
        have s2 := sN h2
        have b := bw_ks l [[61]] (g2.2.1) (by omega)
        generalize ks l [[61]] (g2.2.1) = g3 at *
        obtain ⟨g3a, g3b⟩ := b
        refine pz_bnd (by omega) g3b fun h3 => ?_
        have b := ty_pz hl (i := g3.2.1) (by omega)
        generalize tyR l (g3.2.1) = g4 at *
        obtain ⟨g4a, g4b, g4c⟩ := b
        refine pz_bnd (by omega) g4b fun h4 => ?_
        have g4c := g4c h4
        exact ihSL g4.2.1 g4b i0 lo _ (by omega) (by simp only [w_node, wL_cons, wL_nil]; omega)
      rw [if_neg k0]
      exact ⟨by simp only; omega, hi, fun _ => ⟨by simp only; omega, hw⟩⟩
    · rw [mBody]
      by_cases k0 : keyS l (i : Int) kSg = true
      · rw [if_pos k0]
        have hin := key_in k0
        have b := ihSs [] (i + 1) (by omega)
        generalize mSpecs l n [] (i + 1) = g1 at *
        obtain ⟨g1a, g1b, g1c⟩ := b
        refine pz_bnd (by omega) g1b fun h1 => ?_
        have g1c := g1c h1
        rw [wL_nil] at g1c
        have b := bw_ks l [kEnd] (g1.2.1) (by omega)
        generalize ks l [kEnd] (g1.2.1) = g2 at *
        obtain ⟨g2a, g2b⟩ := b
        refine pz_bnd (by omega) g2b fun h2 => ?_
        exact ⟨by simp only; omega, by simp only; omega, fun _ => ⟨by simp only; omega, by simp only [w_node, wL_cons, wL_nil]; omega⟩⟩
      rw [if_neg k0]
      have b := bw_nm (l := l) (i := i) (by omega)
      have sN := nm_at (l := l) (i := i)
      generalize nmR l (i) = g1 at *
      obtain ⟨g1a, g1b⟩ := b
      refine pz_bnd (by omega) g1b fun h1 => ?_
      have s1 := sN h1
      exact ⟨by simp only; omega, by simp only; omega, fun _ => ⟨by simp only; omega, by simp only [w_node, wL_cons, wL_nil]; omega⟩⟩
    · rw [mSpecs]
      by_cases k0 : anyK l i [kVal, kType, kData, kStr, kInc, kShare] = true
      · rw [if_pos k0]
        have b := ihSp i (by omega)
        generalize mSpec l n i = g1 at *
        obtain ⟨g1a, g1b, g1c⟩ := b
        refine pr_bnd (by omega) g1b fun h1 => ?_
        have g1c := g1c h1
        have b := ihSs (out ++ [g1.1]) g1.2.1 g1b
        obtain ⟨q1, q2, q3⟩ := b
        refine ⟨by omega, q2, fun h => ?_⟩
        have := q3 h
        rw [wL_append, wL_cons, wL_nil] at this
        omega
      rw [if_neg k0]
      exact ⟨by simp only; omega, hi, fun _ => by simp only; omega⟩
    · rw [mSpec]
      by_cases k0 : keyS l (i : Int) kVal = true
      · rw [if_pos k0]
        have hin := key_in k0
        have b := bw_nm (l := l) (i := i + 1) (by omega)
        have sN := nm_at (l := l) (i := i + 1)
        generalize nmR l (i + 1) = g1 at *
        obtain ⟨g1a, g1b⟩ := b
        refine pz_bnd (by omega) g1b fun h1 => ?_
        have s1 := sN h1
        have b := kt_pz (s := [58]) (f := fun j => tyR l j) (i := g1.2.1) (by omega) (fun j hj => ty_pz hl hj)
        generalize bhd .nil l [58] (fun j => tyR l j) (g1.2.1) = g2 at *
        obtain ⟨g2a, g2b, g2c⟩ := b
        refine pz_bnd (by omega) g2b fun h2 => ?_
        have g2c := g2c h2
        exact ⟨by simp only; omega, by simp only; omega, fun _ => ⟨by simp only; omega, by simp only [w_node, wL_cons, wL_nil]; omega⟩⟩
      rw [if_neg k0]
      by_cases k1 : keyS l (i : Int) kType = true
      · rw [if_pos k1]
        have hin := key_in k1
        have b := bw_nm (l := l) (i := i + 1) (by omega)
        have sN := nm_at (l := l) (i := i + 1)
        generalize nmR l (i + 1) = g1 at *
        obtain ⟨g1a, g1b⟩ := b
        refine pz_bnd (by omega) g1b fun h1 => ?_
        have s1 := sN h1
        by_cases j1 : keyS l (g1.2.1 : Int) [61] = true
        · rw [if_pos j1]
          have hin2 := key_in j1
          have b := ty_pz hl (i := g1.2.1 + 1) (by omega)
          generalize tyR l (g1.2.1 + 1) = g2 at *
          obtain ⟨g2a, g2b, g2c⟩ := b
          refine pz_bnd (by omega) g2b fun h2 => ?_
          have g2c := g2c h2
          exact ⟨by simp only; omega, by simp only; omega, fun _ => ⟨by simp only; omega, by simp only [w_node, wL_cons, wL_nil]; omega⟩⟩
        rw [if_neg j1]
        exact ⟨by simp only; omega, by simp only; omega, fun _ => ⟨by simp only; omega, by simp only [w_node, wL_cons, wL_nil]; omega⟩⟩
      rw [if_neg k1]
      by_cases k2 : keyS l (i : Int) kData = true
      · rw [if_pos k2]
        have hin := key_in k2
        have b := bw_nm (l := l) (i := i + 1) (by omega)
        have sN := nm_at (l := l) (i := i + 1)
        generalize nmR l (i + 1) = g1 at *
        obtain ⟨g1a, g1b⟩ := b
        refine pz_bnd (by omega) g1b fun h1 => ?_
        have s1 := sN h1
        have b := bw_ks l [[61]] (g1.2.1) (by omega)
        generalize ks l [[61]] (g1.2.1) = g2 at *
        obtain ⟨g2a, g2b⟩ := b
        refine pz_bnd (by omega) g2b fun h2 => ?_
        have b := cn_pq hl (i := g2.2.1) (by omega)
        generalize cnR l (g2.2.1) = g3 at *
        obtain ⟨g3a, g3b, g3c⟩ := b
        refine pz_bnd (by omega) g3b fun h3 => ?_
        have g3c := g3c h3
        rw [wL_nil] at g3c
        exact ⟨by simp only; omega, by simp only; omega, fun _ => ⟨by simp only; omega, by simp only [w_node, wL_cons, wL_nil]; omega⟩⟩
      rw [if_neg k2]
      by_cases k3 : keyS l (i : Int) kStr = true
      · rw [if_pos k3]
        have hin := key_in k3
        have b := bw_nm (l := l) (i := i + 1) (by omega)
        have sN := nm_at (l := l) (i := i + 1)
        generalize nmR l (i + 1) = g1 at *
        obtain ⟨g1a, g1b⟩ := b
        refine pz_bnd (by omega) g1b fun h1 => ?_
        have s1 := sN h1
        have b := kt_pz (s := [58]) (f := fun j => mSig l n j) (i := g1.2.1) (by omega) (fun j hj => ihS j hj)
        generalize bhd .nil l [58] (fun j => mSig l n j) (g1.2.1) = g2 at *
        obtain ⟨g2a, g2b, g2c⟩ := b
        refine pz_bnd (by omega) g2b fun h2 => ?_
        have g2c := g2c h2
        exact ⟨by simp only; omega, by simp only; omega, fun _ => ⟨by simp only; omega, by simp only [w_node, wL_cons, wL_nil]; omega⟩⟩
      rw [if_neg k3]
      by_cases k4 : keyS l (i : Int) kInc = true
      · rw [if_pos k4]
        have hin := key_in k4
        have b := ihS (i + 1) (by omega)
        generalize mSig l n (i + 1) = g1 at *
        obtain ⟨g1a, g1b, g1c⟩ := b
        refine pz_bnd (by omega) g1b fun h1 => ?_
        have g1c := g1c h1
        exact ⟨by simp only; omega, by simp only; omega, fun _ => ⟨by simp only; omega, by simp only [w_node, wL_cons, wL_nil]; omega⟩⟩
      rw [if_neg k4]
      by_cases k5 : keyS l (i : Int) kShare = true
      · rw [if_pos k5]
        have hin := key_in k5
        have b := bw_ks l [kType] (i + 1) (by omega)
        generalize ks l [kType] (i + 1) = g1 at *
        obtain ⟨g1a, g1b⟩ := b
        refine pz_bnd (by omega) g1b fun h1 => ?_
        have b := bw_lg (l := l) (i := g1.2.1) (by omega)
        have sN := lg_at (l := l) (i := g1.2.1)
        generalize lgR l (g1.2.1) = g2 at *
        obtain ⟨g2a, g2b⟩ := b
        refine pz_bnd (by omega) g2b fun h2 => ?_
        have s2 := sN h2
        have b := bw_ks l [[61]] (g2.2.1) (by omega)
        generalize ks l [[61]] (g2.2.1) = g3 at *
        obtain ⟨g3a, g3b⟩ := b
        refine pz_bnd (by omega) g3b fun h3 => ?_
        have b := bw_lg (l := l) (i := g3.2.1) (by omega)
        have sN := lg_at (l := l) (i := g3.2.1)
        generalize lgR l (g3.2.1) = g4 at *
        obtain ⟨g4a, g4b⟩ := b
        refine pz_bnd (by omega) g4b fun h4 => ?_
        have s4 := sN h4
        exact ⟨by simp only; omega, by simp only; omega, fun _ => ⟨by simp only; omega, by simp only [w_node, wL_cons, wL_nil]; omega⟩⟩
      rw [if_neg k5]
      exact pz_stop (Nat.le_refl _) hi (by decide)
    · rw [mDecls]
      by_cases k0 : (anyK l i [kVal, kType, kData, kStr, kOpen, kInc] || (top && anyK l i [kSig, kFun])) = true
      · rw [if_pos k0]
        have b := ihD top i (by omega)
        generalize mDecl l n top i = g1 at *
        obtain ⟨g1a, g1b, g1c⟩ := b
        refine pr_bnd (by omega) g1b fun h1 => ?_
        have g1c := g1c h1
        have b := ihDs top (out ++ [g1.1]) g1.2.1 g1b
        obtain ⟨q1, q2, q3⟩ := b
        refine ⟨by omega, q2, fun h => ?_⟩
        have := q3 h
        rw [wL_append, wL_cons, wL_nil] at this
        omega
      rw [if_neg k0]
      exact ⟨by simp only; omega, hi, fun _ => by simp only; omega⟩
    · rw [mDecl]
      by_cases k0 : keyS l (i : Int) kVal = true
      · rw [if_pos k0]
        have hin := key_in k0
        have b := bw_nm (l := l) (i := i + 1) (by omega)
        have sN := nm_at (l := l) (i := i + 1)
        generalize nmR l (i + 1) = g1 at *
        obtain ⟨g1a, g1b⟩ := b
        refine pz_bnd (by omega) g1b fun h1 => ?_
        have s1 := sN h1
        by_cases j0 : keyS l (g1.2.1 : Int) [58] = true
        · rw [if_pos j0]
          have hin2 := key_in j0
          have b := ty_pz hl (i := g1.2.1 + 1) (by omega)
          generalize tyR l (g1.2.1 + 1) = g2 at *
          obtain ⟨g2a, g2b, g2c⟩ := b
          refine pz_bnd (by omega) g2b fun h2 => ?_
          have g2c := g2c h2
          have b := kt_pz (s := [61]) (f := fun j => exR l j) (i := g2.2.1) (by omega) (fun j hj => ex_pz hl hj)
          generalize bhd .nil l [61] (fun j => exR l j) (g2.2.1) = g3 at *
          obtain ⟨g3a, g3b, g3c⟩ := b
          refine pz_bnd (by omega) g3b fun h3 => ?_
          have g3c := g3c h3
          exact ⟨by simp only; omega, by simp only; omega, fun _ => ⟨by simp only; omega, by simp only [w_node, wL_cons, wL_nil]; omega⟩⟩
        rw [if_neg j0]
        have b := kt_pz (s := [61]) (f := fun j => exR l j) (i := g1.2.1) (by omega) (fun j hj => ex_pz hl hj)
        generalize bhd .nil l [61] (fun j => exR l j) (g1.2.1) = g2 at *
        obtain ⟨g2a, g2b, g2c⟩ := b
        refine pz_bnd (by omega) g2b fun h2 => ?_
        have g2c := g2c h2
        exact ⟨by simp only; omega, by simp only; omega, fun _ => ⟨by simp only; omega, by simp only [w_node, wL_cons, wL_nil]; omega⟩⟩
      rw [if_neg k0]
      by_cases k1 : keyS l (i : Int) kType = true
      · rw [if_pos k1]
        have hin := key_in k1
        have b := bw_nm (l := l) (i := i + 1) (by omega)
        have sN := nm_at (l := l) (i := i + 1)
        generalize nmR l (i + 1) = g1 at *
        obtain ⟨g1a, g1b⟩ := b
        refine pz_bnd (by omega) g1b fun h1 => ?_
        have s1 := sN h1
        have b := kt_pz (s := [61]) (f := fun j => tyR l j) (i := g1.2.1) (by omega) (fun j hj => ty_pz hl hj)
        generalize bhd .nil l [61] (fun j => tyR l j) (g1.2.1) = g2 at *
        obtain ⟨g2a, g2b, g2c⟩ := b
        refine pz_bnd (by omega) g2b fun h2 => ?_
        have g2c := g2c h2
        exact ⟨by simp only; omega, by simp only; omega, fun _ => ⟨by simp only; omega, by simp only [w_node, wL_cons, wL_nil]; omega⟩⟩
      rw [if_neg k1]
      by_cases k2 : keyS l (i : Int) kData = true
      · rw [if_pos k2]
        have hin := key_in k2
        have b := bw_nm (l := l) (i := i + 1) (by omega)
        have sN := nm_at (l := l) (i := i + 1)
        generalize nmR l (i + 1) = g1 at *
        obtain ⟨g1a, g1b⟩ := b
        refine pz_bnd (by omega) g1b fun h1 => ?_
        have s1 := sN h1
        have b := bw_ks l [[61]] (g1.2.1) (by omega)
        generalize ks l [[61]] (g1.2.1) = g2 at *
        obtain ⟨g2a, g2b⟩ := b
        refine pz_bnd (by omega) g2b fun h2 => ?_
        have b := cn_pq hl (i := g2.2.1) (by omega)
        generalize cnR l (g2.2.1) = g3 at *
        obtain ⟨g3a, g3b, g3c⟩ := b
        refine pz_bnd (by omega) g3b fun h3 => ?_
        have g3c := g3c h3
        rw [wL_nil] at g3c
        exact ⟨by simp only; omega, by simp only; omega, fun _ => ⟨by simp only; omega, by simp only [w_node, wL_cons, wL_nil]; omega⟩⟩
      rw [if_neg k2]
      by_cases k3 : keyS l (i : Int) kStr = true
      · rw [if_pos k3]
        have hin := key_in k3
        have b := bw_nm (l := l) (i := i + 1) (by omega)
        have sN := nm_at (l := l) (i := i + 1)
        generalize nmR l (i + 1) = g1 at *
        obtain ⟨g1a, g1b⟩ := b
        refine pz_bnd (by omega) g1b fun h1 => ?_
        have s1 := sN h1
        have b := kt_pz (s := [61]) (f := fun j => mMod l n j) (i := g1.2.1) (by omega) (fun j hj => ihM j hj)
        generalize bhd .nil l [61] (fun j => mMod l n j) (g1.2.1) = g2 at *
        obtain ⟨g2a, g2b, g2c⟩ := b
        refine pz_bnd (by omega) g2b fun h2 => ?_
        have g2c := g2c h2
        exact ⟨by simp only; omega, by simp only; omega, fun _ => ⟨by simp only; omega, by simp only [w_node, wL_cons, wL_nil]; omega⟩⟩
      rw [if_neg k3]
      by_cases k4 : keyS l (i : Int) kOpen = true
      · rw [if_pos k4]
        have hin := key_in k4
        have b := bw_lg (l := l) (i := i + 1) (by omega)
        have sN := lg_at (l := l) (i := i + 1)
        generalize lgR l (i + 1) = g1 at *
        obtain ⟨g1a, g1b⟩ := b
        refine pz_bnd (by omega) g1b fun h1 => ?_
        have s1 := sN h1
        exact ⟨by simp only; omega, by simp only; omega, fun _ => ⟨by simp only; omega, by simp only [w_node, wL_cons, wL_nil]; omega⟩⟩
      rw [if_neg k4]
      by_cases k5 : keyS l (i : Int) kInc = true
      · rw [if_pos k5]
        have hin := key_in k5
        have b := bw_lg (l := l) (i := i + 1) (by omega)
        have sN := lg_at (l := l) (i := i + 1)
        generalize lgR l (i + 1) = g1 at *
        obtain ⟨g1a, g1b⟩ := b
        refine pz_bnd (by omega) g1b fun h1 => ?_
        have s1 := sN h1
        exact ⟨by simp only; omega, by simp only; omega, fun _ => ⟨by simp only; omega, by simp only [w_node, wL_cons, wL_nil]; omega⟩⟩
      rw [if_neg k5]
      by_cases k6 : top = true ∧ keyS l (i : Int) kSig = true
      · rw [if_pos k6]
        have hin := key_in k6.2
        have b := bw_nm (l := l) (i := i + 1) (by omega)
        have sN := nm_at (l := l) (i := i + 1)
        generalize nmR l (i + 1) = g1 at *
        obtain ⟨g1a, g1b⟩ := b
        refine pz_bnd (by omega) g1b fun h1 => ?_
        have s1 := sN h1
        have b := kt_pz (s := [61]) (f := fun j => mSig l n j) (i := g1.2.1) (by omega) (fun j hj => ihS j hj)
        generalize bhd .nil l [61] (fun j => mSig l n j) (g1.2.1) = g2 at *
        obtain ⟨g2a, g2b, g2c⟩ := b
        refine pz_bnd (by omega) g2b fun h2 => ?_
        have g2c := g2c h2
        exact ⟨by simp only; omega, by simp only; omega, fun _ => ⟨by simp only; omega, by simp only [w_node, wL_cons, wL_nil]; omega⟩⟩
      rw [if_neg k6]
      by_cases k7 : top = true ∧ keyS l (i : Int) kFun = true
      · rw [if_pos k7]
        have hin := key_in k7.2
        have b := bw_nm (l := l) (i := i + 1) (by omega)
        have sN := nm_at (l := l) (i := i + 1)
        generalize nmR l (i + 1) = g1 at *
        obtain ⟨g1a, g1b⟩ := b
        refine pz_bnd (by omega) g1b fun h1 => ?_
        have s1 := sN h1
        have b := bw_ks l [[40]] (g1.2.1) (by omega)
        generalize ks l [[40]] (g1.2.1) = g2 at *
        obtain ⟨g2a, g2b⟩ := b
        refine pz_bnd (by omega) g2b fun h2 => ?_
        have b := bw_nm (l := l) (i := g2.2.1) (by omega)
        have sN := nm_at (l := l) (i := g2.2.1)
        generalize nmR l (g2.2.1) = g3 at *
        obtain ⟨g3a, g3b⟩ := b
        refine pz_bnd (by omega) g3b fun h3 => ?_
        have s3 := sN h3
        have b := kt_pz (s := [58]) (f := fun j => mSig l n j) (i := g3.2.1) (by omega) (fun j hj => ihS j hj)
        generalize bhd .nil l [58] (fun j => mSig l n j) (g3.2.1) = g4 at *
        obtain ⟨g4a, g4b, g4c⟩ := b
        refine pz_bnd (by omega) g4b fun h4 => ?_
        have g4c := g4c h4
        have b := bw_ks l [[41]] (g4.2.1) (by omega)
        generalize ks l [[41]] (g4.2.1) = g5 at *
        obtain ⟨g5a, g5b⟩ := b
        refine pz_bnd (by omega) g5b fun h5 => ?_
        have b := kt_pz (s := [61]) (f := fun j => mMod l n j) (i := g5.2.1) (by omega) (fun j hj => ihM j hj)
        generalize bhd .nil l [61] (fun j => mMod l n j) (g5.2.1) = g6 at *
        obtain ⟨g6a, g6b, g6c⟩ := b
        refine pz_bnd (by omega) g6b fun h6 => ?_
        have g6c := g6c h6
        exact ⟨by simp only; omega, by simp only; omega, fun _ => ⟨by simp only; omega, by simp only [w_node, wL_cons, wL_nil]; omega⟩⟩
      rw [if_neg k7]
      exact pz_stop (Nat.le_refl _) hi (by decide)
end
end Go.Proofs.YtnogkihchgnbcaaGreatDoor

/- The parser of modules: keys, names, parts of other layers, what it does behind an error. -/
namespace Go.Proofs.YtnogkihchgnbcaaGreatDoor
open Go Go.Am Go.Sx
theorem nodeM (c : Int) (s : List UInt8) (ks : List Tr) : Ev (fun K => pmod_node K c s ks) (.node c 0 s [] ks) := ⟨0, fun _ _ => rfl⟩
theorem nodeO (c : Int) (s : List UInt8) : Ev (fun K => pmod_node_o K c s) (c, 0, s, []) := ⟨0, fun _ _ => rfl⟩
/-! ### behind an error -/
section
variable (l : List Token) (i e : Int) (he : e ≠ 0)
include he
theorem qkey_err (t : List UInt8) : Ev (fun K => pmod_parser_key K l i e t) (false, l, i, e) :=
  Ev.congr (f := fun K => _) (Ev.nT he Ev.pure) (fun k => by rw [pmod_parser_key])
theorem qfail_err (c : Int) : Ev (fun K => pmod_parser_fail K l i e c) (l, i, e) :=
  Ev.congr (f := fun K => _) (Ev.dF he Ev.pure) (fun k => by rw [pmod_parser_fail])
theorem qmustl_err (t : List (List UInt8)) (ht : t.length ≤ 1000) : ∀ (m j : Nat), t.length = j + m → Ev (fun K => pmod_parser_must_l0 K t (j : Int) l i e) (l, i, e) := by
  intro m
  induction m with
  | zero =>
    intro j hj
    exact Ev.step (fun k => by rw [pmod_parser_must_l0]) (Ev.dF (by omega) Ev.pure)
  | succ m ih =>
    intro j hj
    refine Ev.step (fun k => by rw [pmod_parser_must_l0]) ?_
    refine Ev.dT (by omega) ?_
    refine Ev.opt (getI_lt (by omega)) ?_
    refine Ev.bind (qkey_err l i e he _) ?_
    refine Ev.isT rfl ?_
    refine Ev.bind (qfail_err l i e he _) ?_
    rw [wrap_nat (by omega)]
    exact ih (j + 1) (by omega)
theorem qmust_err (t : List (List UInt8)) (ht : t.length ≤ 1000) : Ev (fun K => pmod_parser_must K l i e t) (l, i, e) := by
  refine Ev.congr (f := fun K => _) ?_ (fun k => by rw [pmod_parser_must])
  exact qmustl_err l i e he t ht t.length 0 (by omega)
theorem qword_err : Ev (fun K => pmod_parser_word_Name K l i e) ([], l, i, e) := by
  refine Ev.congr (f := fun K => _) ?_ (fun k => by rw [pmod_parser_word_Name])
  refine Ev.bind (ev_pName l i) ?_
  refine Ev.nT he ?_
  exact Ev.bind (qfail_err l i e he 6) Ev.pure
theorem qwordl_err : Ev (fun K => pmod_parser_word_Long K l i e) ([], l, i, e) := by
  refine Ev.congr (f := fun K => _) ?_ (fun k => by rw [pmod_parser_word_Long])
  refine Ev.bind (ev_pLong l i) ?_
  refine Ev.nT he ?_
  exact Ev.bind (qfail_err l i e he 6) Ev.pure
theorem qname_err : Ev (fun K => pmod_parser_name K l i e) ([], l, i, e) :=
  Ev.congr (f := fun K => _) (Ev.bind (qword_err l i e he) Ev.pure) (fun k => by rw [pmod_parser_name])
theorem qlong_err : Ev (fun K => pmod_parser_long K l i e) ([], l, i, e) :=
  Ev.congr (f := fun K => _) (Ev.bind (qwordl_err l i e he) Ev.pure) (fun k => by rw [pmod_parser_long])
theorem qpartT_err : Ev (fun K => pmod_parser_part_Type K l i e) (.nil, l, i, e) :=
  Ev.congr (f := fun K => _) (Ev.nT he Ev.pure) (fun k => by rw [pmod_parser_part_Type])
theorem qpartE_err : Ev (fun K => pmod_parser_part_Expr K l i e) (.nil, l, i, e) :=
  Ev.congr (f := fun K => _) (Ev.nT he Ev.pure) (fun k => by rw [pmod_parser_part_Expr])
theorem qtyp_err : Ev (fun K => pmod_parser_typ K l i e) (.nil, l, i, e) :=
  Ev.congr (f := fun K => _) (Ev.bind (qpartT_err l i e he) Ev.pure) (fun k => by rw [pmod_parser_typ])
theorem qexpr_err : Ev (fun K => pmod_parser_expr K l i e) (.nil, l, i, e) :=
  Ev.congr (f := fun K => _) (Ev.bind (qpartE_err l i e he) Ev.pure) (fun k => by rw [pmod_parser_expr])
theorem qcons_err : Ev (fun K => pmod_parser_cons K l i e) ([], l, i, e) :=
  Ev.congr (f := fun K => _) (Ev.nT he Ev.pure) (fun k => by rw [pmod_parser_cons])
theorem qbtyp_err (s : List UInt8) : Ev (fun K => pmod_parser_behind_typ K l i e s) (.nil, l, i, e) :=
  Ev.congr (f := fun K => _) (Ev.bind (qmust_err l i e he [s] (by simp)) (Ev.bind (qtyp_err l i e he) Ev.pure)) (fun k => by rw [pmod_parser_behind_typ])
theorem qbexpr_err (s : List UInt8) : Ev (fun K => pmod_parser_behind_expr K l i e s) (.nil, l, i, e) :=
  Ev.congr (f := fun K => _) (Ev.bind (qmust_err l i e he [s] (by simp)) (Ev.bind (qexpr_err l i e he) Ev.pure)) (fun k => by rw [pmod_parser_behind_expr])
theorem qspec_err : Ev (fun K => pmod_parser_spec K l i e) (.nil, l, i, e) := by
  refine Ev.step (fun k => by rw [pmod_parser_spec]) ?_
  repeat' first | refine Ev.bind (qkey_err l i e he _) ?_ | refine Ev.isF rfl ?_
  exact Ev.pure
theorem qbody_err : Ev (fun K => pmod_parser_body K l i e) (.node 51 0 [] [] [], l, i, e) := by
  refine Ev.step (fun k => by rw [pmod_parser_body]) ?_
  refine Ev.bind (qkey_err l i e he _) ?_
  refine Ev.isT rfl ?_
  refine Ev.bind (qname_err l i e he) ?_
  exact Ev.bind (nodeO ..) Ev.pure
theorem qsigl_err (t : Tr) : Ev (fun K => pmod_parser_sig_l0 K t l i e) (t, l, i, e) := by
  refine Ev.step (fun k => by rw [pmod_parser_sig_l0]) ?_
  refine Ev.bind (qkey_err l i e he _) ?_
  exact Ev.isF rfl Ev.pure
theorem qsig_err : Ev (fun K => pmod_parser_sig K l i e) (.node 51 0 [] [] [], l, i, e) := by
  refine Ev.step (fun k => by rw [pmod_parser_sig]) ?_
  exact Ev.bind (qbody_err l i e he) (qsigl_err l i e he _)
theorem qbsig_err (s : List UInt8) : Ev (fun K => pmod_parser_behind_sig K l i e s) (.node 51 0 [] [] [], l, i, e) := by
  refine Ev.step (fun k => by rw [pmod_parser_behind_sig]) ?_
  exact Ev.bind (qmust_err l i e he [s] (by simp)) (Ev.bind (qsig_err l i e he) Ev.pure)
theorem qprim_err : Ev (fun K => pmod_parser_prim K l i e) (.node 41 0 [] [] [], l, i, e) := by
  refine Ev.step (fun k => by rw [pmod_parser_prim]) ?_
  refine Ev.bind (qkey_err l i e he _) ?_
  refine Ev.isF rfl ?_
  refine Ev.bind (qkey_err l i e he _) ?_
  refine Ev.isF rfl ?_
  have pn := ev_pName l i
  generalize nameS l i = N at *
  obtain ⟨s, b⟩ := N
  refine Ev.bind pn ?_
  refine Ev.is (fun _ => ?_) (fun _ => ?_)
  · refine Ev.bind (ev_pKey l _ _) ?_
    refine Ev.is (fun _ => ?_) (fun _ => ?_)
    · refine Ev.dF he ?_
      refine Ev.bind (qlong_err l i e he) ?_
      exact Ev.bind (nodeM ..) Ev.pure
    · refine Ev.bind (qlong_err l i e he) ?_
      exact Ev.bind (nodeM ..) Ev.pure
  · refine Ev.bind (qlong_err l i e he) ?_
    exact Ev.bind (nodeM ..) Ev.pure
theorem qmodl_err (t : Tr) : Ev (fun K => pmod_parser_mod_l0 K t l i e) (t, l, i, e) := by
  refine Ev.step (fun k => by rw [pmod_parser_mod_l0]) ?_
  refine Ev.bind (qkey_err l i e he _) ?_
  refine Ev.isF rfl ?_
  refine Ev.bind (qkey_err l i e he _) ?_
  exact Ev.isF rfl Ev.pure
theorem qmod_err : Ev (fun K => pmod_parser_mod K l i e) (.node 41 0 [] [] [], l, i, e) := by
  refine Ev.step (fun k => by rw [pmod_parser_mod]) ?_
  exact Ev.bind (qprim_err l i e he) (qmodl_err l i e he _)
theorem qbmod_err (s : List UInt8) : Ev (fun K => pmod_parser_behind_mod K l i e s) (.node 41 0 [] [] [], l, i, e) := by
  refine Ev.step (fun k => by rw [pmod_parser_behind_mod]) ?_
  exact Ev.bind (qmust_err l i e he [s] (by simp)) (Ev.bind (qmod_err l i e he) Ev.pure)
theorem qdecl_err (top : Bool) : Ev (fun K => pmod_parser_decl K l i e top) (.nil, l, i, e) := by
  refine Ev.step (fun k => by rw [pmod_parser_decl]) ?_
  refine Ev.bind (qkey_err l i e he _) (Ev.isF rfl ?_)
  refine Ev.bind (qkey_err l i e he _) (Ev.isF rfl ?_)
  refine Ev.bind (qkey_err l i e he _) (Ev.isF rfl ?_)
  refine Ev.bind (qkey_err l i e he _) (Ev.isF rfl ?_)
  refine Ev.bind (qkey_err l i e he _) (Ev.isF rfl ?_)
  refine Ev.bind (qkey_err l i e he _) (Ev.isF rfl ?_)
  cases top with
  | false => exact Ev.isF rfl Ev.pure
  | true =>
    refine Ev.isT rfl ?_
    refine Ev.bind (qkey_err l i e he _) (Ev.isF rfl ?_)
    refine Ev.bind (qkey_err l i e he _) (Ev.isF rfl ?_)
    exact Ev.pure
end
/-! ### no error yet -/
theorem qkey_f {l : List Token} {i : Int} {t : List UInt8} (h : keyS l i t = false) : Ev (fun K => pmod_parser_key K l i 0 t) (false, l, i, 0) := by
  refine Ev.congr (f := fun K => _) ?_ (fun k => by rw [pmod_parser_key])
  refine Ev.nF rfl ?_
  refine Ev.bind (ev_pKey l i t) ?_
  exact Ev.isT (by rw [h]; rfl) Ev.pure
theorem qfail0 (l : List Token) (i c : Int) : Ev (fun K => pmod_parser_fail K l i 0 c) (l, i, c) :=
  Ev.congr (f := fun K => _) (Ev.dT rfl Ev.pure) (fun k => by rw [pmod_parser_fail])
section
variable {l : List Token} (hl : l.length ≤ 20000)
include hl
theorem qkey_t {i : Nat} {t : List UInt8} (h : keyS l (i : Int) t = true) : Ev (fun K => pmod_parser_key K l (i : Int) 0 t) (true, l, ((i + 1 : Nat) : Int), 0) := by
  have hin := key_in h
  refine Ev.congr (f := fun K => _) ?_ (fun k => by rw [pmod_parser_key])
  refine Ev.nF rfl ?_
  refine Ev.bind (ev_pKey l i t) ?_
  exact Ev.isF (by rw [h]; rfl) (Ev.pure' (by rw [wr1 (by omega)]))
theorem qmustl (t : List (List UInt8)) (ht : t.length ≤ 1000) : ∀ (m j i : Nat), t.length = j + m → Ev (fun K => pmod_parser_must_l0 K t (j : Int) l (i : Int) 0) (l, (((ks l (t.drop j) i).2.1 : Nat) : Int), (ks l (t.drop j) i).2.2) := by
  intro m
  induction m with
  | zero =>
    intro j i hj
    rw [List.drop_of_length_le (by omega), ks]
    exact Ev.step (fun k => by rw [pmod_parser_must_l0]) (Ev.dF (by omega) Ev.pure)
  | succ m ih =>
    intro j i hj
    have hlt : j < t.length := by omega
    rw [drop_get hlt, ks]
    refine Ev.step (fun k => by rw [pmod_parser_must_l0]) ?_
    refine Ev.dT (by omega) ?_
    refine Ev.opt (getI_lt hlt) ?_
    by_cases hk : keyS l (i : Int) t[j] = true
    · rw [if_pos hk]
      refine Ev.bind (qkey_t hl hk) ?_
      refine Ev.isF rfl ?_
      rw [wrap_nat (by omega)]
      exact ih (j + 1) (i + 1) (by omega)
    · rw [if_neg hk]
      refine Ev.bind (qkey_f (by simpa using hk)) ?_
      refine Ev.isT rfl ?_
      refine Ev.bind (qfail0 l i 6) ?_
      rw [wrap_nat (by omega)]
      exact qmustl_err l i 6 (by decide) t ht m (j + 1) (by omega)
theorem qmust (t : List (List UInt8)) (ht : t.length ≤ 1000) (i : Nat) : Ev (fun K => pmod_parser_must K l (i : Int) 0 t) (l, (((ks l t i).2.1 : Nat) : Int), (ks l t i).2.2) := by
  refine Ev.congr (f := fun K => _) ?_ (fun k => by rw [pmod_parser_must])
  exact qmustl hl t ht t.length 0 i (by omega)
theorem qname (i : Nat) : Hs (fun K => pmod_parser_name K l (i : Int) 0) (QS l (fun _ => True) (nmR l i)) := by
  suffices h : Hs (fun K => pmod_parser_word_Name K l (i : Int) 0) (QS l (fun _ => True) (nmR l i)) by
    obtain ⟨⟨a, l', i', e'⟩, h1, h2⟩ := h
    exact Hs.congr (f := fun K => _) (Hs.evb h1 (Hs.pure h2)) (fun k => by rw [pmod_parser_name])
  refine Hs.congr (f := fun K => _) ?_ (fun k => by rw [pmod_parser_word_Name])
  have p := ev_pName l i
  unfold nmR
  have hin := name_in (l := l) (i := (i : Int))
  generalize nameS l (i : Int) = N at *
  obtain ⟨s, b⟩ := N
  refine Hs.evb p ?_
  refine Hs.n (fun h => absurd rfl h) (fun _ => ?_)
  cases b with
  | false =>
    refine Hs.isT rfl ?_
    refine Hs.evb (qfail0 l i 6) ?_
    exact Hs.pure ⟨rfl, rfl, rfl, fun _ => rfl, trivial⟩
  | true =>
    have hin := hin rfl
    refine Hs.isF rfl ?_
    exact Hs.pure ⟨rfl, by simp only [if_true]; rw [wr1 (by omega)], rfl, fun _ => rfl, trivial⟩
theorem qlong (i : Nat) : Hs (fun K => pmod_parser_long K l (i : Int) 0) (QS l (fun _ => True) (lgR l i)) := by
  suffices h : Hs (fun K => pmod_parser_word_Long K l (i : Int) 0) (QS l (fun _ => True) (lgR l i)) by
    obtain ⟨⟨a, l', i', e'⟩, h1, h2⟩ := h
    exact Hs.congr (f := fun K => _) (Hs.evb h1 (Hs.pure h2)) (fun k => by rw [pmod_parser_long])
  refine Hs.congr (f := fun K => _) ?_ (fun k => by rw [pmod_parser_word_Long])
  have p := ev_pLong l i
  unfold lgR
  have hin := long_in (l := l) (i := (i : Int))
  generalize longS l (i : Int) = N at *
  obtain ⟨s, b⟩ := N
  refine Hs.evb p ?_
  refine Hs.n (fun h => absurd rfl h) (fun _ => ?_)
  cases b with
  | false =>
    refine Hs.isT rfl ?_
    refine Hs.evb (qfail0 l i 6) ?_
    exact Hs.pure ⟨rfl, rfl, rfl, fun _ => rfl, trivial⟩
  | true =>
    have hin := hin rfl
    refine Hs.isF rfl ?_
    exact Hs.pure ⟨rfl, by simp only [if_true]; rw [wr1 (by omega)], rfl, fun _ => rfl, trivial⟩
theorem qtyp {i : Nat} (hi : i ≤ l.length) : Hs (fun K => pmod_parser_typ K l (i : Int) 0) (QS l TT (tyR l i)) := by
  refine Hs.congr (f := fun K => _) ?_ (fun k => by rw [pmod_parser_typ])
  suffices h : Hs (fun K => pmod_parser_part_Type K l (i : Int) 0) (QS l TT (tyR l i)) by
    obtain ⟨⟨a, l', i', e'⟩, h1, h2⟩ := h
    exact Hs.evb h1 (Hs.pure h2)
  refine Hs.congr (f := fun K => _) ?_ (fun k => by rw [pmod_parser_part_Type])
  refine Hs.n (fun h => absurd rfl h) (fun _ => ?_)
  refine Hs.evb (ev_ptype hl hi) ?_
  refine Hs.evb (qfail0 l _ _) ?_
  exact Hs.pure ⟨rfl, rfl, rfl, fun he => if_pos he, trivial⟩
theorem qexpr {i : Nat} (hi : i ≤ l.length) : Hs (fun K => pmod_parser_expr K l (i : Int) 0) (QS l TT (exR l i)) := by
  refine Hs.congr (f := fun K => _) ?_ (fun k => by rw [pmod_parser_expr])
  suffices h : Hs (fun K => pmod_parser_part_Expr K l (i : Int) 0) (QS l TT (exR l i)) by
    obtain ⟨⟨a, l', i', e'⟩, h1, h2⟩ := h
    exact Hs.evb h1 (Hs.pure h2)
  refine Hs.congr (f := fun K => _) ?_ (fun k => by rw [pmod_parser_part_Expr])
  refine Hs.n (fun h => absurd rfl h) (fun _ => ?_)
  have p := expr_p hl (n := 8 * l.length + 6) hi (by omega)
  refine Hs.evb p ?_
  refine Hs.evb (qfail0 l _ _) ?_
  exact Hs.pure ⟨rfl, rfl, rfl, fun he => if_pos he, trivial⟩
theorem qcons {i : Nat} (hi : i ≤ l.length) : Hs (fun K => pmod_parser_cons K l (i : Int) 0) (QS l (fun a => a.length ≤ 40000) (cnR l i)) := by
  obtain ⟨c', h1, h5, h4, h3⟩ := (ps_all hl (3 * l.length + 3) i hi).2.2.2 (by omega) [] [] (fun s => by simp [lookupM]) (by simp)
  unfold cnR
  generalize consS l (3 * l.length + 3) i [] = g at *
  have hw : g.2.2 = 0 → c'.length ≤ 40000 := fun h => by
    obtain ⟨e, _, h7⟩ := h5 h
    have := wL_len g.1
    rw [wL_nil] at h7
    rw [e]; omega
  have hc : Ev (fun K => ptype_Cons K l (i : Int)) (if g.2.2 = 0 then c' else [], ((g.2.1 : Nat) : Int), g.2.2) := by
    refine Ev.congr (f := fun K => _) ?_ (fun k => by rw [ptype_Cons])
    refine Ev.bind (begin_ok hl (by omega)) ?_
    refine Ev.bind (a := (c', l, ((g.2.1 : Nat) : Int), g.2.2)) (Ev.step (fun k => by rw [ptype_parser_cons]) h1) ?_
    refine Ev.n (fun he => Ev.pure' (by rw [if_neg he])) (fun he => Ev.pure' (by rw [if_pos he, he]))
  refine Hs.congr (f := fun K => _) ?_ (fun k => by rw [pmod_parser_cons])
  refine Hs.n (fun h => absurd rfl h) (fun _ => ?_)
  refine Hs.evb hc ?_
  refine Hs.evb (qfail0 l _ _) ?_
  refine Hs.pure ⟨rfl, rfl, rfl, fun he => ?_, ?_⟩
  · simp only; rw [if_pos he]; exact (h5 he).1
  · simp only
    by_cases he : g.2.2 = 0
    · rw [if_pos he]; exact hw he
    · rw [if_neg he]; simp
/-- what stands behind a sign -/
theorem qbehind {s : List UInt8} {F : Nat → List Token → Int → Int → Option (Tr × List Token × Int × Int)} {B : Nat → Option (Tr × List Token × Int × Int)} {f : Nat → RT} {i : Nat} {v : Tr} (hi : i ≤ l.length)
    (hB : ∀ Q : Tr × List Token × Int × Int → Prop, Hs (fun K => (pmod_parser_must K l (i : Int) 0 [s]).bind fun (v1, v2, v3) => (F K v1 v2 v3).bind fun (v4, v5, v6, v7) => some (v4, v5, v6, v7)) Q → Hs B Q)
    (hF : ∀ j, j ≤ l.length → i < j → Hs (fun K => F K l (j : Int) 0) (QS l TT (f j))) (hE : ∀ (j : Nat) e, e ≠ 0 → Ev (fun K => F K l (j : Int) e) (v, l, (j : Int), e)) : Hs B (QS l TT (bhd .nil l s f i)) := by
  refine hB _ ?_
  have b := bw_ks l [s] i hi
  have p := qmust hl [s] (by simp) i
  have st : (ks l [s] i).2.2 = 0 → i < (ks l [s] i).2.1 := fun h => by
    rw [ks] at h ⊢
    by_cases hk : keyS l (i : Int) s = true
    · rw [if_pos hk, ks]; simp
    · rw [if_neg hk] at h; exact absurd (show (6 : Int) = 0 from h) (by decide)
  unfold bhd
  generalize ks l [s] i = g at *
  obtain ⟨b1, b2⟩ := b
  refine Hs.parU p (fun h => ?_) (fun he => ?_)
  · obtain ⟨⟨a, l', i', e'⟩, h1, h2⟩ := hF g.2.1 b2 (st h)
    exact Hs.evb h1 (Hs.pure h2)
  · exact Hs.evb (hE _ _ he) (Hs.pure ⟨rfl, rfl, rfl, fun h => absurd h he, trivial⟩)
theorem qbtyp {i : Nat} (s : List UInt8) (hi : i ≤ l.length) : Hs (fun K => pmod_parser_behind_typ K l (i : Int) 0 s) (QS l TT (bhd .nil l s (fun j => tyR l j) i)) :=
  qbehind hl hi (fun _ h => Hs.congr h (fun k => by rw [pmod_parser_behind_typ])) (fun j hj _ => qtyp hl hj) (fun j e he => qtyp_err l j e he)
theorem qbexpr {i : Nat} (s : List UInt8) (hi : i ≤ l.length) : Hs (fun K => pmod_parser_behind_expr K l (i : Int) 0 s) (QS l TT (bhd .nil l s (fun j => exR l j) i)) :=
  qbehind hl hi (fun _ h => Hs.congr h (fun k => by rw [pmod_parser_behind_expr])) (fun j hj _ => qexpr hl hj) (fun j e he => qexpr_err l j e he)
end
end Go.Proofs.YtnogkihchgnbcaaGreatDoor

