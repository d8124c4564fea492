/- Joined texts: M4a, M4, M4b. -/
import Derived.Test.YtnogkihchgnbcaaGreatDoorGn
import Derived.Test.YtnogkihchgnbcaaGreatDoorGz
import Derived.Test.YtnogkihchgnbcaaGreatDoorGw
/- The document's parser of modules: a rule's shape, the table's rows. -/
namespace Go.Proofs.YtnogkihchgnbcaaGreatDoor
open Go Go.Am Go.Sx
theorem key_ne {l : List Token} {i : Int} {s t : List UInt8} (h : keyS l i s = true) (hn : s ≠ t) : keyS l i t = false := by
  unfold keyS at *
  cases hk : tokAt l i with
  | none => rfl
  | some k =>
    rw [hk] at h
    simp only [Bool.and_eq_true, decide_eq_true_eq] at h
    simp only [Bool.and_eq_false_iff, decide_eq_false_iff_not]
    exact .inr fun e => hn (h.2.symm.trans e)
theorem name_nokey {l : List Token} {i : Int} {s : List UInt8} (h : (nameS l i).2 = true) : keyS l i s = false := by
  unfold keyS nameS at *
  cases hk : tokAt l i with
  | none => rfl
  | some k =>
    rw [hk] at h
    simp only at h ⊢
    by_cases hc : k.1 = 1 ∧ ckS k.2.1 = true
    · rw [hc.1]; rfl
    · rw [if_neg hc] at h; cases h
abbrev Sh := List UInt8 × List UInt8 × List Tr
/-- what a shape makes of what stands at a place -/
def shR (l : List Token) (n : Nat) : List UInt8 → Sh → Nat → Sh × Nat × Int
  | [], a, i => (a, i, 0)
  | c :: r, a, i =>
    if c = 110 then bnd a (nmR l i) fun s i => shR l n r (s, a.2.1, a.2.2) i
    else if c = 78 then bnd a (nmR l i) fun s i => shR l n r (a.1, s, a.2.2) i
    else if c = 108 then bnd a (lgR l i) fun s i => shR l n r (s, a.2.1, a.2.2) i
    else if c = 76 then bnd a (lgR l i) fun s i => shR l n r (a.1, s, a.2.2) i
    else if c = 99 then bnd a (cnR l i) fun k i => shR l n r (a.1, a.2.1, a.2.2 ++ k) i
    else if c = 116 then bnd a (tyR l i) fun t i => shR l n r (a.1, a.2.1, a.2.2 ++ [t]) i
    else if c = 101 then bnd a (exR l i) fun t i => shR l n r (a.1, a.2.1, a.2.2 ++ [t]) i
    else if c = 109 then bnd a (mMod l n i) fun t i => shR l n r (a.1, a.2.1, a.2.2 ++ [t]) i
    else if c = 115 then bnd a (mSig l n i) fun t i => shR l n r (a.1, a.2.1, a.2.2 ++ [t]) i
    else bnd a (ks l [if c = 84 then kType else [c]] i) fun _ i => shR l n r a i
abbrev P7 := Int × Int × Int × Int × List UInt8 × List UInt8 × List Tr
def QP (c m : Int) (r : Sh × Nat × Int) (x : P7) : Prop := x.1 = ((r.2.1 : Nat) : Int) ∧ x.2.1 = r.2.2 ∧ (r.2.2 = 0 → x.2.2 = (c, m, r.1.1, r.1.2.1, r.1.2.2))
theorem Hs.parP {α : Type} {S : α → Prop} {c m : Int} {f : Nat → Option (α × Int × Int)} {g : α × Int × Int → Nat → Option P7} {r : α × Nat × Int} {d : Sh} {h : α → Nat → Sh × Nat × Int}
    (hf : Hs f (QR S r)) (ok : r.2.2 = 0 → S r.1 → Hs (g (r.1, ((r.2.1 : Nat) : Int), 0)) (QP c m (h r.1 r.2.1))) (no : ∀ a, S a → r.2.2 ≠ 0 → Hs (g (a, ((r.2.1 : Nat) : Int), r.2.2)) (QP c m (d, r.2.1, r.2.2))) : Hs (fun K => (f K).bind fun x => g x K) (QP c m (bnd d r h)) := by
  obtain ⟨⟨a, i', e'⟩, h1, h3, h4, h5, h6⟩ := hf
  simp only at h3 h4 h5 h6
  subst h3 h4
  unfold bnd
  by_cases he : r.2.2 = 0
  · rw [if_pos he]
    have e := h5 he
    subst e
    rw [he] at h1
    exact Hs.evb h1 (ok he h6)
  · rw [if_neg he]
    exact Hs.evb h1 (no a h6 he)
theorem u8_int {c : UInt8} {v : Nat} (hv : v < 256) (h : ((c.toNat : Nat) : Int) = (v : Int)) : c = UInt8.ofNat v := by
  apply UInt8.toNat_inj.1
  rw [UInt8.toNat_ofNat']
  omega
section
variable {l : List Token} (hl : l.length ≤ 1000)
include hl
theorem ev_pcons {i : Nat} (hi : i ≤ l.length) : Ev (fun K => ptype_Cons K l (i : Int)) (if (cnR l i).2.2 = 0 then (cnR l i).1 else [], (((cnR l i).2.1 : Nat) : Int), (cnR l i).2.2) ∧ (if (cnR l i).2.2 = 0 then (cnR l i).1 else []).length ≤ 2000 := by
  obtain ⟨c', h1, h5, h4, h3⟩ := (ps_all hl (3 * l.length + 3) i hi).2.2.2 (by omega) [] [] (fun s => by simp [lookupM]) (by simp)
  unfold cnR
  generalize consS l (3 * l.length + 3) i [] = g at *
  refine ⟨?_, ?_⟩
  · refine Ev.congr (f := fun K => _) ?_ (fun k => by rw [ptype_Cons])
    refine Ev.bind (begin_ok hl (by omega)) ?_
    refine Ev.bind (a := (c', l, ((g.2.1 : Nat) : Int), g.2.2)) (Ev.step (fun k => by rw [ptype_parser_cons]) h1) ?_
    refine Ev.n (fun he => Ev.pure' (by rw [if_neg he])) (fun he => Ev.pure' (by rw [if_pos he, he, (h5 he).1]))
  · by_cases he : g.2.2 = 0
    · obtain ⟨e, _, h7⟩ := h5 he
      have := wL_len g.1
      rw [wL_nil] at h7
      rw [if_pos he]; omega
    · rw [if_neg he]; simp
variable (hT : ∀ k ∈ l, k.2.1.length ≤ 1099511627776)
include hT
theorem rcons {i : Nat} (hi : i ≤ l.length) : Hs (fun K => ref06_Cons K l (i : Int)) (QR (fun a => a.length ≤ 2000) (cnR l i)) := by
  obtain ⟨c, j, er, h1, h2, _⟩ := cons_at hl hT (i : Int)
  obtain ⟨h3, h4⟩ := ev_pcons hl hi
  rw [Ev.unique h1 h3] at h2
  exact ⟨_, h2, rfl, rfl, fun h => if_pos h, h4⟩
theorem rtypQ {i : Nat} (hi : i ≤ l.length) : Hs (fun K => ref06_Type K l (i : Int)) (QR TT (tyR l i)) :=
  ⟨_, ev_rtype hl hT hi, rfl, rfl, fun h => if_pos h, trivial⟩
theorem rexprQ {i : Nat} (hi : i ≤ l.length) : Hs (fun K => ref07_Expr K l (i : Int)) (QR TT (exR l i)) :=
  ⟨_, expr_r hl hT hi (n := 8 * l.length + 6) (by omega), rfl, rfl, fun h => if_pos h, trivial⟩
variable {n : Nat}
/-- one tree of a category -/
def oneR (l : List Token) (n : Nat) (c : Nat) (i : Nat) : RT := if c = 116 then tyR l i else if c = 101 then exR l i else if c = 109 then mMod l n i else mSig l n i
omit hT in
theorem one_bd {c i : Nat} (hi : i ≤ l.length) : Pz l i (2 * i) (oneR l n c i) := by
  unfold oneR
  by_cases h1 : c = 116
  · rw [if_pos h1]; exact ty_pz hl hi
  rw [if_neg h1]
  by_cases h2 : c = 101
  · rw [if_pos h2]; exact ex_pz hl hi
  rw [if_neg h2]
  by_cases h3 : c = 109
  · rw [if_pos h3]; exact mb_M hl hi
  rw [if_neg h3]; exact mb_S hl hi
theorem hs_one (ihM : JX l n 2 ref08_mod (mMod l n)) (ihS : JX l n 2 ref08_sig (mSig l n)) {c i : Nat} (hi : i ≤ l.length) (hn : 8 * (l.length - i) + 2 ≤ n) : Hs (fun K => ref08_one K l (i : Int) (c : Int)) (QR TT (oneR l n c i)) := by
  refine Hs.step (fun k => by rw [ref08_one]) ?_
  unfold oneR
  refine Hs.d (fun h => ?_) (fun h => ?_)
  · rw [if_pos (by omega)]
    obtain ⟨⟨a, i', e'⟩, h1, h2⟩ := rtypQ hl hT hi
    exact Hs.evb h1 (Hs.pure h2)
  rw [if_neg (by omega)]
  refine Hs.d (fun h => ?_) (fun h => ?_)
  · rw [if_pos (by omega)]
    obtain ⟨⟨a, i', e'⟩, h1, h2⟩ := rexprQ hl hT hi
    exact Hs.evb h1 (Hs.pure h2)
  rw [if_neg (by omega)]
  refine Hs.d (fun h => ?_) (fun h => ?_)
  · rw [if_pos (by omega)]
    obtain ⟨⟨a, i', e'⟩, h1, h2⟩ := ihM i hi hn
    exact Hs.evb h1 (Hs.pure h2)
  rw [if_neg (by omega)]
  obtain ⟨⟨a, i', e'⟩, h1, h2⟩ := ihS i hi hn
  exact Hs.evb h1 (Hs.pure h2)
theorem part_loop (ihM : JX l n 2 ref08_mod (mMod l n)) (ihS : JX l n 2 ref08_sig (mSig l n)) (c m : Int) {sh : List UInt8} (hsh : sh.length ≤ 20) : ∀ (w k i : Nat) (a : Sh), sh.length = k + w → i ≤ l.length → 8 * (l.length - i) + 2 ≤ n → a.2.2.length ≤ 2000 * k + 10 →
    Hs (fun K => ref08_part_l0 K l (i : Int) sh (k : Int) c m a.1 a.2.1 a.2.2) (QP c m (shR l n (sh.drop k) a i)) := by
  intro w
  induction w with
  | zero =>
    intro k i a hk hi hn ha
    rw [List.drop_of_length_le (by omega), shR]
    refine Hs.step (fun k => by rw [ref08_part_l0]) ?_
    refine Hs.d (fun h => absurd h (by omega)) (fun _ => ?_)
    exact Hs.pure ⟨rfl, rfl, fun _ => rfl⟩
  | succ w ih =>
    intro k i a hk hi hn ha
    have hlt : k < sh.length := by omega
    have wk : IntKind.i64.wrap ((k : Int) + 1) = ((k + 1 : Nat) : Int) := wr1 (by omega)
    have wi : IntKind.i64.wrap ((i : Int) + 1) = ((i + 1 : Nat) : Int) := wr1 (by omega)
    rw [drop_get hlt]
    refine Hs.step (fun k => by rw [ref08_part_l0]) ?_
    refine Hs.d (fun _ => ?_) (fun h => absurd (by omega) h)
    refine Hs.opt (getI_lt hlt) ?_
    rw [wk, wi]
    generalize sh[k] = ch
    have ihk := ih (k + 1)
    clear ih
    have kid : ∀ (cc : Nat), Hs (fun K => (ref08_one K l (i : Int) (cc : Int)).bind fun (v15, v16, v17) => iteS (!decide (v17 = 0)) (some (v16, v17, c, m, a.1, a.2.1, a.2.2)) ((appL 8 a.2.2 ([v15] : List Tr)).bind fun v18 => ref08_part_l0 K l v16 sh ((k + 1 : Nat) : Int) c m a.1 a.2.1 v18))
        (QP c m (bnd a (oneR l n cc i) fun t i => shR l n (sh.drop (k + 1)) (a.1, a.2.1, a.2.2 ++ [t]) i)) := by
      intro cc
      have b := one_bd hl (n := n) (c := cc) hi
      have p := hs_one hl hT ihM ihS (c := cc) hi hn
      generalize oneR l n cc i = g at *
      obtain ⟨b1, b2, b3⟩ := b
      refine Hs.parP p (fun h1 _ => ?_) (fun x _ he => ?_)
      · have b3 := b3 h1
        refine Hs.n (fun h => absurd rfl h) (fun _ => ?_)
        refine Hs.opt (appL_ok (by simp; omega)) ?_
        exact ihk g.2.1 (a.1, a.2.1, a.2.2 ++ [g.1]) (by omega) b2 (by omega) (by simp; omega)
      · refine Hs.n (fun _ => ?_) (fun h => absurd h he)
        exact Hs.pure ⟨rfl, rfl, fun h => absurd h he⟩
    have hNin := name_in (l := l) (i := (i : Int))
    have hLin := long_in (l := l) (i := (i : Int))
    have hN := ev_rName hT (i : Int)
    have hL := ev_rLong l (i : Int)
    rw [shR]
    by_cases c1 : ch = 110
    · subst c1
      refine Hs.d (fun _ => ?_) (fun h => absurd (by decide) h)
      rw [if_pos rfl]
      unfold nmR
      generalize nameS l (i : Int) = N at *
      obtain ⟨s, b⟩ := N
      refine Hs.evb hN ?_
      cases b with
      | false =>
        rw [if_neg (by simp), bnd_no (by decide)]
        exact Hs.isT rfl (Hs.pure ⟨rfl, rfl, fun h => absurd (show (6 : Int) = 0 from h) (by decide)⟩)
      | true =>
        have := hNin rfl
        rw [if_pos rfl, bnd_ok]
        refine Hs.isF rfl ?_
        refine Hs.d (fun _ => ?_) (fun h => absurd (by decide) h)
        exact ihk (i + 1) (s, a.2.1, a.2.2) (by omega) (by omega) (by omega) (by simp; omega)
    rw [if_neg c1]
    refine Hs.d (fun h => absurd (u8_int (by decide) h) c1) (fun _ => ?_)
    by_cases c2 : ch = 78
    · subst c2
      refine Hs.d (fun _ => ?_) (fun h => absurd (by decide) h)
      rw [if_pos rfl]
      unfold nmR
      generalize nameS l (i : Int) = N at *
      obtain ⟨s, b⟩ := N
      refine Hs.evb hN ?_
      cases b with
      | false =>
        rw [if_neg (by simp), bnd_no (by decide)]
        exact Hs.isT rfl (Hs.pure ⟨rfl, rfl, fun h => absurd (show (6 : Int) = 0 from h) (by decide)⟩)
      | true =>
        have := hNin rfl
        rw [if_pos rfl, bnd_ok]
        refine Hs.isF rfl ?_
        refine Hs.d (fun h => absurd h (by decide)) (fun _ => ?_)
        exact ihk (i + 1) (a.1, s, a.2.2) (by omega) (by omega) (by omega) (by simp; omega)
    rw [if_neg c2]
    refine Hs.d (fun h => absurd (u8_int (by decide) h) c2) (fun _ => ?_)
    by_cases c3 : ch = 108
    · subst c3
      refine Hs.d (fun _ => ?_) (fun h => absurd (by decide) h)
      rw [if_pos rfl]
      unfold lgR
      generalize longS l (i : Int) = N at *
      obtain ⟨s, b⟩ := N
      refine Hs.evb hL ?_
      cases b with
      | false =>
        rw [if_neg (by simp), bnd_no (by decide)]
        exact Hs.isT rfl (Hs.pure ⟨rfl, rfl, fun h => absurd (show (6 : Int) = 0 from h) (by decide)⟩)
      | true =>
        have := hLin rfl
        rw [if_pos rfl, bnd_ok]
        refine Hs.isF rfl ?_
        refine Hs.d (fun _ => ?_) (fun h => absurd (by decide) h)
        exact ihk (i + 1) (s, a.2.1, a.2.2) (by omega) (by omega) (by omega) (by simp; omega)
    rw [if_neg c3]
    refine Hs.d (fun h => absurd (u8_int (by decide) h) c3) (fun _ => ?_)
    by_cases c4 : ch = 76
    · subst c4
      refine Hs.d (fun _ => ?_) (fun h => absurd (by decide) h)
      rw [if_pos rfl]
      unfold lgR
      generalize longS l (i : Int) = N at *
      obtain ⟨s, b⟩ := N
      refine Hs.evb hL ?_
      cases b with
      | false =>
        rw [if_neg (by simp), bnd_no (by decide)]
        exact Hs.isT rfl (Hs.pure ⟨rfl, rfl, fun h => absurd (show (6 : Int) = 0 from h) (by decide)⟩)
      | true =>
        have := hLin rfl
        rw [if_pos rfl, bnd_ok]
        refine Hs.isF rfl ?_
        refine Hs.d (fun h => absurd h (by decide)) (fun _ => ?_)
        exact ihk (i + 1) (a.1, s, a.2.2) (by omega) (by omega) (by omega) (by simp; omega)
    rw [if_neg c4]
    refine Hs.d (fun h => absurd (u8_int (by decide) h) c4) (fun _ => ?_)
    by_cases c5 : ch = 99
    · subst c5
      refine Hs.d (fun _ => ?_) (fun h => absurd (by decide) h)
      rw [if_pos rfl]
      have b := cn_pq hl hi
      have p := rcons hl hT hi
      generalize cnR l i = g at *
      obtain ⟨b1, b2, b3⟩ := b
      refine Hs.parP p (fun h1 hs => ?_) (fun x _ he => ?_)
      · have b3 := b3 h1
        refine Hs.n (fun h => absurd rfl h) (fun _ => ?_)
        refine Hs.opt (appL_ok (by omega)) ?_
        exact ihk g.2.1 (a.1, a.2.1, a.2.2 ++ g.1) (by omega) b2 (by omega) (by simp; omega)
      · refine Hs.n (fun _ => ?_) (fun h => absurd h he)
        exact Hs.pure ⟨rfl, rfl, fun h => absurd h he⟩
    rw [if_neg c5]
    refine Hs.d (fun h => absurd (u8_int (by decide) h) c5) (fun _ => ?_)
    by_cases c6 : ch = 116
    · subst c6
      refine Hs.d (fun _ => ?_) (fun h => absurd (by decide) h)
      rw [if_pos rfl]
      exact kid 116
    rw [if_neg c6]
    refine Hs.d (fun h => absurd (u8_int (by decide) h) c6) (fun _ => ?_)
    by_cases c7 : ch = 101
    · subst c7
      refine Hs.d (fun _ => ?_) (fun h => absurd (by decide) h)
      rw [if_pos rfl]
      exact kid 101
    rw [if_neg c7]
    refine Hs.d (fun h => absurd (u8_int (by decide) h) c7) (fun _ => ?_)
    by_cases c8 : ch = 109
    · subst c8
      refine Hs.d (fun _ => ?_) (fun h => absurd (by decide) h)
      rw [if_pos rfl]
      exact kid 109
    rw [if_neg c8]
    refine Hs.d (fun h => absurd (u8_int (by decide) h) c8) (fun _ => ?_)
    by_cases c9 : ch = 115
    · subst c9
      refine Hs.d (fun _ => ?_) (fun h => absurd (by decide) h)
      rw [if_pos rfl]
      exact kid 115
    rw [if_neg c9]
    refine Hs.d (fun h => absurd (u8_int (by decide) h) c9) (fun _ => ?_)
    have sg : Ev (fun K => ref08_sign K ((ch.toNat : Nat) : Int)) (if ch = 84 then kType else [ch]) := by
      refine Ev.congr (f := fun K => _) ?_ (fun k => by rw [ref08_sign])
      refine Ev.d (fun h => Ev.pure' ?_) (fun h => Ev.pure' ?_)
      · have e : ch = 84 := u8_int (v := 84) (by decide) h
        rw [if_pos e]
      · rw [if_neg (fun e => h (by rw [e]; rfl))]; simp [encB]
    refine Hs.evb sg ?_
    generalize (if ch = 84 then kType else [ch]) = wd
    refine Hs.evb (ev_rKey l (i : Int) wd) ?_
    have hKin := key_in (l := l) (i := (i : Int)) (t := wd)
    rw [ks]
    generalize keyS l (i : Int) wd = kb at *
    cases kb with
    | false => exact Hs.isT rfl (Hs.pure ⟨rfl, rfl, fun h => absurd (show (6 : Int) = 0 from h) (by decide)⟩)
    | true =>
      have := hKin rfl
      refine Hs.isF rfl ?_
      rw [if_pos rfl, ks, bnd_ok]
      exact ihk (i + 1) a (by omega) (by omega) (by omega) (by omega)
theorem hs_part (ihM : JX l n 2 ref08_mod (mMod l n)) (ihS : JX l n 2 ref08_sig (mSig l n)) (c m : Int) {sh : List UInt8} (hsh : sh.length ≤ 20) {i : Nat} (a : Sh) (hi : i ≤ l.length) (hn : 8 * (l.length - i) + 2 ≤ n) (ha : a.2.2.length ≤ 10) :
    Hs (fun K => ref08_part K l (i : Int) c m a.1 a.2.1 a.2.2 sh) (QP c m (shR l n sh a i)) :=
  Hs.step (fun k => by rw [ref08_part]; rfl) (part_loop hl hT ihM ihS c m hsh sh.length 0 i a (by omega) hi hn (by omega))
end
end Go.Proofs.YtnogkihchgnbcaaGreatDoor

/- The document's parser of modules comes to the same plain functions. -/
namespace Go.Proofs.YtnogkihchgnbcaaGreatDoor
open Go Go.Am Go.Sx
abbrev Row := List (List UInt8) × Int × List UInt8
def declT : List Row := [([[118, 97, 108]], 70, [110, 58, 116, 61, 101]), ([[118, 97, 108]], 70, [110, 61, 101]), ([[116, 121, 112, 101]], 71, [110, 61, 116]), ([[100, 97, 116, 97, 116, 121, 112, 101]], 72, [110, 61, 99]),
  ([[115, 116, 114, 117, 99, 116, 117, 114, 101]], 73, [110, 61, 109]), ([[111, 112, 101, 110]], 76, [108]), ([[105, 110, 99, 108, 117, 100, 101]], 77, [108]),
  ([[115, 105, 103, 110, 97, 116, 117, 114, 101]], 74, [110, 61, 115]), ([[102, 117, 110, 99, 116, 111, 114]], 75, [110, 40, 78, 58, 115, 41, 61, 109])]
def specT : List Row := [([[118, 97, 108]], 60, [110, 58, 116]), ([[116, 121, 112, 101]], 61, [110, 61, 116]), ([[116, 121, 112, 101]], 61, [110]), ([[100, 97, 116, 97, 116, 121, 112, 101]], 62, [110, 61, 99]),
  ([[115, 116, 114, 117, 99, 116, 117, 114, 101]], 63, [110, 58, 115]), ([[105, 110, 99, 108, 117, 100, 101]], 64, [115]), ([[115, 104, 97, 114, 105, 110, 103]], 65, [84, 108, 61, 76])]
theorem ev_declRows : Ev (fun K => ref08_declRows K) declT := ⟨0, fun _ _ => rfl⟩
theorem ev_specRows : Ev (fun K => ref08_specRows K) specT := ⟨0, fun _ _ => rfl⟩
def fitS (l : List Token) (i : Nat) (c : Int) (sh : List UInt8) : Bool := if sh = [110, 61, 116] ∧ c = 61 then keyS l ((i + 1 : Nat) : Int) [61] else if sh = [110, 58, 116, 61, 101] then keyS l ((i + 1 : Nat) : Int) [58] else true
def mkR (c : Int) (r : Sh × Nat × Int) : RT := bnd .nil r fun a i => (.node c 0 a.1 a.2.1 a.2.2, i, 0)
/-- what the first rule that fits makes of what stands at a place -/
def rowsP (l : List Token) (n : Nat) (top : Bool) (i : Nat) : List Row → RT
  | [] => (.nil, i, 0)
  | r :: rest => if (74 ≤ r.2.1 ∧ r.2.1 ≤ 75 ∧ top = false) ∨ keyS l (i : Int) (r.1.headD []) = false ∨ fitS l (i + 1) r.2.1 r.2.2 = false then rowsP l n top i rest
    else mkR r.2.1 (shR l n r.2.2 ([], [], []) (i + 1))
section
variable {l : List Token} {n i : Nat} {top : Bool} {w : List UInt8} {c : Int} {sh : List UInt8} {rest : List Row}
theorem row_skip (h : keyS l (i : Int) w = false) : rowsP l n top i (([w], c, sh) :: rest) = rowsP l n top i rest := by
  rw [rowsP, if_pos (.inr (.inl h))]
theorem row_unfit (h : fitS l (i + 1) c sh = false) : rowsP l n top i (([w], c, sh) :: rest) = rowsP l n top i rest := by
  rw [rowsP, if_pos (.inr (.inr h))]
theorem row_top (h1 : 74 ≤ c) (h2 : c ≤ 75) (h : top = false) : rowsP l n top i (([w], c, sh) :: rest) = rowsP l n top i rest := by
  rw [rowsP, if_pos (.inl ⟨h1, h2, h⟩)]
theorem row_hit (h0 : ¬ (74 ≤ c ∧ c ≤ 75 ∧ top = false)) (h : keyS l (i : Int) w = true) (hf : fitS l (i + 1) c sh = true) : rowsP l n top i (([w], c, sh) :: rest) = mkR c (shR l n sh ([], [], []) (i + 1)) := by
  rw [rowsP, if_neg]
  rintro (h' | h' | h')
  · exact h0 h'
  · rw [show ([w] : List (List UInt8)).headD [] = w from rfl, h] at h'; cases h'
  · rw [hf] at h'; cases h'
end
theorem nm_two (l : List Token) (i : Nat) : (∃ s, nmR l i = (s, i + 1, 0)) ∨ nmR l i = ([], i, 6) := by
  unfold nmR
  by_cases h : (nameS l (i : Int)).2 = true
  · rw [if_pos h]; exact .inl ⟨_, rfl⟩
  · rw [if_neg h]; exact .inr rfl
theorem rows_spec {l : List Token} {n i : Nat} {top : Bool} : rowsP l n top i specT = if begS l i = true then mSpec l (n + 1) i else (.nil, i, 0) := by
  unfold specT
  by_cases k0 : keyS l (i : Int) kVal = true
  · rw [row_hit (by omega) k0 rfl, if_pos (by simp [begS, anyK, k0]), mSpec, if_pos k0]
    simp (config := {decide := true}) only [mkR, shR, bnd_assoc, bnd_ok, kt, ↓reduceIte, List.nil_append, List.cons_append]
  rw [row_skip (by simpa using k0)]
  by_cases k1 : keyS l (i : Int) kType = true
  · rw [if_pos (show begS l i = true by simp [begS, anyK, k1]), mSpec, if_neg k0, if_pos k1]
    have e : ∀ j, (ks l [[61]] j) = if keyS l (j : Int) [61] = true then ((), j + 1, 0) else ((), j, 6) := fun j => by simp only [ks]
    by_cases kf : keyS l ((i + 1 + 1 : Nat) : Int) [61] = true
    · rw [row_hit (by omega) k1 (show fitS l (i + 1) 61 [110, 61, 116] = true from kf)]
      rcases nm_two l (i + 1) with ⟨s, h⟩ | h
      · simp (config := {decide := true}) only [mkR, shR, bnd_assoc, h, e, kf, bnd_ok, ↓reduceIte, List.nil_append]
      · simp (config := {decide := true}) only [mkR, shR, bnd_assoc, h, bnd_no, ↓reduceIte]
    · rw [row_unfit (show fitS l (i + 1) 61 [110, 61, 116] = false by simpa [fitS] using kf), row_hit (by omega) k1 rfl]
      rcases nm_two l (i + 1) with ⟨s, h⟩ | h
      · simp (config := {decide := true}) only [mkR, shR, bnd_assoc, h, kf, bnd_ok, ↓reduceIte, List.nil_append]
      · simp (config := {decide := true}) only [mkR, shR, bnd_assoc, h, bnd_no, ↓reduceIte]
  rw [row_skip (by simpa using k1), row_skip (by simpa using k1)]
  by_cases k2 : keyS l (i : Int) kData = true
  · rw [row_hit (by omega) k2 rfl, if_pos (by simp [begS, anyK, k2]), mSpec, if_neg k0, if_neg k1, if_pos k2]
    simp (config := {decide := true}) only [mkR, shR, bnd_assoc, bnd_ok, kt, ↓reduceIte, List.nil_append, List.cons_append]
  rw [row_skip (by simpa using k2)]
  by_cases k3 : keyS l (i : Int) kStr = true
  · rw [row_hit (by omega) k3 rfl, if_pos (by simp [begS, anyK, k3]), mSpec, if_neg k0, if_neg k1, if_neg k2, if_pos k3]
    simp (config := {decide := true}) only [mkR, shR, bnd_assoc, bnd_ok, kt, ↓reduceIte, List.nil_append, List.cons_append]
  rw [row_skip (by simpa using k3)]
  by_cases k4 : keyS l (i : Int) kInc = true
  · rw [row_hit (by omega) k4 rfl, if_pos (by simp [begS, anyK, k4]), mSpec, if_neg k0, if_neg k1, if_neg k2, if_neg k3, if_pos k4]
    simp (config := {decide := true}) only [mkR, shR, bnd_assoc, bnd_ok, kt, ↓reduceIte, List.nil_append, List.cons_append]
  rw [row_skip (by simpa using k4)]
  by_cases k5 : keyS l (i : Int) kShare = true
  · rw [row_hit (by omega) k5 rfl, if_pos (by simp [begS, anyK, k5]), mSpec, if_neg k0, if_neg k1, if_neg k2, if_neg k3, if_neg k4, if_pos k5]
    simp (config := {decide := true}) only [mkR, shR, bnd_assoc, bnd_ok, kt, ↓reduceIte, List.nil_append, List.cons_append]
  rw [row_skip (by simpa using k5), rowsP, if_neg (by simp [begS, anyK, k0, k1, k2, k3, k4, k5])]
theorem rows_decl {l : List Token} {n i : Nat} {top : Bool} : rowsP l n top i declT = if begD l top i = true then mDecl l (n + 1) top i else (.nil, i, 0) := by
  unfold declT
  by_cases k0 : keyS l (i : Int) kVal = true
  · rw [if_pos (show begD l top i = true by simp [begD, anyK, k0]), mDecl, if_pos k0]
    have e : ∀ j, (ks l [[58]] j) = if keyS l (j : Int) [58] = true then ((), j + 1, 0) else ((), j, 6) := fun j => by simp only [ks]
    by_cases kf : keyS l ((i + 1 + 1 : Nat) : Int) [58] = true
    · rw [row_hit (by omega) k0 (show fitS l (i + 1) 70 [110, 58, 116, 61, 101] = true from kf)]
      rcases nm_two l (i + 1) with ⟨s, h⟩ | h
      · simp (config := {decide := true}) only [mkR, shR, bnd_assoc, h, e, kf, kt, bnd_ok, ↓reduceIte, List.nil_append, List.cons_append]
      · simp (config := {decide := true}) only [mkR, shR, bnd_assoc, h, bnd_no, ↓reduceIte]
    · rw [row_unfit (show fitS l (i + 1) 70 [110, 58, 116, 61, 101] = false by simpa [fitS] using kf), row_hit (by omega) k0 rfl]
      rcases nm_two l (i + 1) with ⟨s, h⟩ | h
      · simp (config := {decide := true}) only [mkR, shR, bnd_assoc, h, kf, kt, bnd_ok, ↓reduceIte, List.nil_append]
      · simp (config := {decide := true}) only [mkR, shR, bnd_assoc, h, bnd_no, ↓reduceIte]
  rw [row_skip (by simpa using k0), row_skip (by simpa using k0)]
  by_cases k1 : keyS l (i : Int) kType = true
  · rw [row_hit (by omega) k1 rfl, if_pos (by simp [begD, anyK, k1]), mDecl, if_neg k0, if_pos k1]
    simp (config := {decide := true}) only [mkR, shR, bnd_assoc, bnd_ok, kt, ↓reduceIte, List.nil_append, List.cons_append]
  rw [row_skip (by simpa using k1)]
  by_cases k2 : keyS l (i : Int) kData = true
  · rw [row_hit (by omega) k2 rfl, if_pos (by simp [begD, anyK, k2]), mDecl, if_neg k0, if_neg k1, if_pos k2]
    simp (config := {decide := true}) only [mkR, shR, bnd_assoc, bnd_ok, kt, ↓reduceIte, List.nil_append, List.cons_append]
  rw [row_skip (by simpa using k2)]
  by_cases k3 : keyS l (i : Int) kStr = true
  · rw [row_hit (by omega) k3 rfl, if_pos (by simp [begD, anyK, k3]), mDecl, if_neg k0, if_neg k1, if_neg k2, if_pos k3]
    simp (config := {decide := true}) only [mkR, shR, bnd_assoc, bnd_ok, kt, ↓reduceIte, List.nil_append, List.cons_append]
  rw [row_skip (by simpa using k3)]
  by_cases k4 : keyS l (i : Int) kOpen = true
  · rw [row_hit (by omega) k4 rfl, if_pos (by simp [begD, anyK, k4]), mDecl, if_neg k0, if_neg k1, if_neg k2, if_neg k3, if_pos k4]
    simp (config := {decide := true}) only [mkR, shR, bnd_assoc, bnd_ok, kt, ↓reduceIte, List.nil_append, List.cons_append]
  rw [row_skip (by simpa using k4)]
  by_cases k5 : keyS l (i : Int) kInc = true
  · rw [row_hit (by omega) k5 rfl, if_pos (by simp [begD, anyK, k5]), mDecl, if_neg k0, if_neg k1, if_neg k2, if_neg k3, if_neg k4, if_pos k5]
    simp (config := {decide := true}) only [mkR, shR, bnd_assoc, bnd_ok, kt, ↓reduceIte, List.nil_append, List.cons_append]
  rw [row_skip (by simpa using k5)]
  cases top with
  | false =>
    rw [row_top (by decide) (by decide) rfl, row_top (by decide) (by decide) rfl, rowsP, if_neg (by simp [begD, anyK, k0, k1, k2, k3, k4, k5])]
  | true =>
  by_cases k6 : keyS l (i : Int) kSig = true
  · rw [row_hit (by simp) k6 rfl, if_pos (by simp [begD, anyK, k6]), mDecl, if_neg k0, if_neg k1, if_neg k2, if_neg k3, if_neg k4, if_neg k5, if_pos ⟨rfl, k6⟩]
    simp (config := {decide := true}) only [mkR, shR, bnd_assoc, bnd_ok, kt, ↓reduceIte, List.nil_append, List.cons_append]
  rw [row_skip (by simpa using k6)]
  by_cases k7 : keyS l (i : Int) kFun = true
  · rw [row_hit (by simp) k7 rfl, if_pos (by simp [begD, anyK, k7]), mDecl, if_neg k0, if_neg k1, if_neg k2, if_neg k3, if_neg k4, if_neg k5, if_neg (fun h => k6 h.2), if_pos ⟨rfl, k7⟩]
    simp (config := {decide := true}) only [mkR, shR, bnd_assoc, bnd_ok, kt, ↓reduceIte, List.nil_append, List.cons_append]
  rw [row_skip (by simpa using k7), rowsP, if_neg (by simp [begD, anyK, k0, k1, k2, k3, k4, k5, k6, k7])]
end Go.Proofs.YtnogkihchgnbcaaGreatDoor

/- The document's parser of modules, walked. -/
namespace Go.Proofs.YtnogkihchgnbcaaGreatDoor
open Go Go.Am Go.Sx
/-- and no tree behind an error -/
def QN {β : Type} (d : β) (r : β × Nat × Int) (x : β × Int × Int) : Prop := QR (fun _ => True) r x ∧ (r.2.2 ≠ 0 → x.1 = d)
theorem Hs.parN {α β : Type} {S : α → Prop} {f : Nat → Option (α × Int × Int)} {g : α × Int × Int → Nat → Option (β × Int × Int)} {r : α × Nat × Int} {d d' : β} {h : α → Nat → β × Nat × Int}
    (hf : Hs f (QR S r)) (ok : r.2.2 = 0 → S r.1 → Hs (g (r.1, ((r.2.1 : Nat) : Int), 0)) (QN d' (h r.1 r.2.1))) (no : ∀ a, S a → r.2.2 ≠ 0 → Hs (g (a, ((r.2.1 : Nat) : Int), r.2.2)) (QN d' (d, r.2.1, r.2.2))) : Hs (fun K => (f K).bind fun x => g x K) (QN d' (bnd d r h)) := by
  obtain ⟨⟨a, i', e'⟩, h1, h3, h4, h5, h6⟩ := hf
  simp only at h3 h4 h5 h6
  subst h3 h4
  unfold bnd
  by_cases he : r.2.2 = 0
  · rw [if_pos he]
    have e := h5 he
    subst e
    rw [he] at h1
    exact Hs.evb h1 (ok he h6)
  · rw [if_neg he]
    exact Hs.evb h1 (no a h6 he)
def NX (l : List Token) (n c : Nat) (f : Nat → List Token → Int → Option (Tr × Int × Int)) (g : Nat → RT) : Prop := ∀ j, j ≤ l.length → 8 * (l.length - j) + c ≤ n → Hs (fun K => f K l (j : Int)) (QN .nil (g j))
def NL (l : List Token) (n : Nat) (f : Nat → List Token → Int → Tr → Int → Option (Tr × Int × Int)) (g : Tr → Nat → RT) : Prop := ∀ j, j ≤ l.length → 8 * (l.length - j) + 2 ≤ n → ∀ a, Hs (fun K => f K l (j : Int) a 0) (QN .nil (g a j))
theorem NX.x {l : List Token} {n c : Nat} {f : Nat → List Token → Int → Option (Tr × Int × Int)} {g : Nat → RT} (h : NX l n c f g) : JX l n c f g := fun j h1 h2 => (h j h1 h2).weak fun _ k => k.1
section
variable {l : List Token} (hl : l.length ≤ 1000)
include hl
omit hl in
theorem ev_fits (hl : l.length ≤ 1000) {i : Nat} (hi : i ≤ l.length) (w : List (List UInt8)) (c : Int) (sh : List UInt8) : Ev (fun K => ref08_fits K l (i : Int) w c sh) (fitS l i c sh) := by
  refine Ev.congr (f := fun K => _) ?_ (fun k => by rw [ref08_fits])
  unfold fitS
  rw [wr1 (by omega)]
  have two : sh ≠ [110, 61, 116] ∨ c ≠ 61 → Ev (fun K => iteS (decide (sh = [110, 58, 116, 61, 101])) ((ref06_Key K l ((i + 1 : Nat) : Int) [58]).bind fun v => some v) (some true)) (if sh = [110, 61, 116] ∧ c = 61 then keyS l ((i + 1 : Nat) : Int) [61] else if sh = [110, 58, 116, 61, 101] then keyS l ((i + 1 : Nat) : Int) [58] else true) := by
    intro h
    rw [if_neg (fun e => h.elim (fun x => x e.1) (fun x => x e.2))]
    refine Ev.d (fun e => ?_) (fun e => ?_)
    · rw [if_pos e]; exact Ev.bind (ev_rKey l _ _) Ev.pure
    · rw [if_neg e]; exact Ev.pure
  refine Ev.d (fun h => ?_) (fun h => two (.inl h))
  refine Ev.d (fun h2 => ?_) (fun h2 => two (.inr h2))
  rw [if_pos ⟨h, h2⟩]
  exact Ev.bind (ev_rKey l _ _) Ev.pure
variable (hT : ∀ k ∈ l, k.2.1.length ≤ 1099511627776)
include hT
variable {n : Nat}
theorem rows_loop (ihM : JX l n 2 ref08_mod (mMod l n)) (ihS : JX l n 2 ref08_sig (mSig l n)) {T : List Row} (hT2 : ∀ r ∈ T, r.1.length = 1 ∧ r.2.2.length ≤ 20) (hT3 : T.length ≤ 20) {i : Nat} (hi : i ≤ l.length) (hn : 8 * (l.length - i) ≤ n + 6) (top : Bool) : ∀ (w k : Nat), T.length = k + w →
    Hs (fun K => ref08_rows_l0 K l (i : Int) T top (k : Int)) (QR TT (rowsP l n top i (T.drop k))) := by
  intro w
  induction w with
  | zero =>
    intro k hk
    rw [List.drop_of_length_le (by omega), rowsP]
    refine Hs.step (fun k => by rw [ref08_rows_l0]) ?_
    refine Hs.d (fun h => absurd h (by omega)) (fun _ => ?_)
    exact Hs.pure ⟨rfl, rfl, fun _ => rfl, trivial⟩
  | succ w ih =>
    intro k hk
    have hlt : k < T.length := by omega
    have ih := ih (k + 1) (by omega)
    have wk : IntKind.i64.wrap ((k : Int) + 1) = ((k + 1 : Nat) : Int) := wr1 (by omega)
    have wi : IntKind.i64.wrap ((i : Int) + 1) = ((i + 1 : Nat) : Int) := wr1 (by omega)
    have hg := getI_lt hlt
    obtain ⟨q1, q2⟩ := hT2 _ (List.getElem_mem hlt)
    rw [drop_get hlt, rowsP]
    generalize T[k] = r at *
    obtain ⟨ws, c, sh⟩ := r
    simp only at q1 q2
    obtain ⟨wd, rfl⟩ : ∃ wd, ws = [wd] := by
      match ws, q1 with
      | [x], _ => exact ⟨x, rfl⟩
    have check : ¬ (74 ≤ c ∧ c ≤ 75 ∧ top = false) → Hs (fun K => (getI T (k : Int)).bind fun v4 => (getI v4.1 0).bind fun v5 => (ref06_Key K l (i : Int) v5).bind fun v6 => iteS (!v6) (ref08_rows_l0 K l (i : Int) T top ((k + 1 : Nat) : Int)) ((getI T (k : Int)).bind fun v7 => (ref08_fits K l ((i + 1 : Nat) : Int) v7.1 v7.2.1 v7.2.2).bind fun v8 => iteS (!v8) (ref08_rows_l0 K l (i : Int) T top ((k + 1 : Nat) : Int)) ((getI T (k : Int)).bind fun v9 => (getI T (k : Int)).bind fun v10 => (ref08_part K l ((i + 1 : Nat) : Int) v9.2.1 0 [] [] [] v10.2.2).bind fun (v11, v12, v13, v14, v15, v16, v17) => iteS (!decide (v12 = 0)) (some (.nil, v11, v12)) (some (.node v13 v14 v15 v16 v17, v11, 0)))))
        (QR TT (if (74 ≤ c ∧ c ≤ 75 ∧ top = false) ∨ keyS l (i : Int) wd = false ∨ fitS l (i + 1) c sh = false then rowsP l n top i (T.drop (k + 1)) else mkR c (shR l n sh ([], [], []) (i + 1)))) := by
      intro hno
      refine Hs.opt hg ?_
      refine Hs.opt (a := wd) rfl ?_
      refine Hs.evb (ev_rKey l _ _) ?_
      by_cases hk : keyS l (i : Int) wd = false
      · rw [if_pos (.inr (.inl hk))]
        exact Hs.isT (by rw [hk]; rfl) ih
      have hk : keyS l (i : Int) wd = true := by simpa using hk
      have hin := key_in hk
      refine Hs.isF (by rw [hk]; rfl) ?_
      refine Hs.opt hg ?_
      refine Hs.evb (ev_fits hl (by omega) _ _ _) ?_
      by_cases hf : fitS l (i + 1) c sh = false
      · rw [if_pos (.inr (.inr hf))]
        exact Hs.isT (by rw [hf]; rfl) ih
      rw [if_neg (by rintro (h | h | h); exact hno h; rw [hk] at h; cases h; exact hf h)]
      refine Hs.isF (by simpa using hf) ?_
      refine Hs.opt hg ?_
      refine Hs.opt hg ?_
      obtain ⟨⟨x1, x2, x3, x4, x5, x6, x7⟩, h1, h2, h3, h4⟩ := hs_part hl hT ihM ihS c 0 q2 (i := i + 1) ([], [], []) (by omega) (by omega) (by simp)
      simp only at h2 h3 h4
      subst h2 h3
      unfold mkR
      generalize shR l n sh ([], [], []) (i + 1) = g at *
      refine Hs.evb h1 ?_
      unfold bnd
      refine Hs.n (fun he => ?_) (fun he => ?_)
      · rw [if_neg he]
        exact Hs.pure ⟨rfl, rfl, fun h => absurd h he, trivial⟩
      · rw [if_pos he]
        refine Hs.pure ⟨rfl, rfl, fun _ => ?_, trivial⟩
        have := h4 he
        simp only [Prod.mk.injEq] at this
        obtain ⟨e1, e2, e3, e4, e5⟩ := this
        simp only
        rw [e1, e2, e3, e4, e5]
    refine Hs.step (fun k => by rw [ref08_rows_l0]) ?_
    rw [wk, wi]
    refine Hs.d (fun _ => ?_) (fun h => absurd (by omega) h)
    refine Hs.opt hg ?_
    refine Hs.d (fun h74 => ?_) (fun h74 => check (fun h => h74 h.1))
    refine Hs.opt hg ?_
    refine Hs.d (fun h75 => ?_) (fun h75 => check (fun h => h75 h.2.1))
    cases top with
    | false =>
      rw [if_pos (.inl ⟨h74, h75, rfl⟩)]
      exact Hs.isT rfl ih
    | true => exact Hs.isF rfl (check (fun h => by cases h.2.2))
theorem hs_rows (ihM : JX l n 2 ref08_mod (mMod l n)) (ihS : JX l n 2 ref08_sig (mSig l n)) {T : List Row} (hT2 : ∀ r ∈ T, r.1.length = 1 ∧ r.2.2.length ≤ 20) (hT3 : T.length ≤ 20) {i : Nat} (hi : i ≤ l.length) (hn : 8 * (l.length - i) ≤ n + 6) (top : Bool) :
    Hs (fun K => ref08_rows K l (i : Int) T top) (QR TT (rowsP l n top i T)) :=
  Hs.step (fun k => by rw [ref08_rows]; rfl) (rows_loop hl hT ihM ihS hT2 hT3 hi hn top T.length 0 (by omega))
def JE (l : List Token) (n : Nat) : Prop := ∀ j, j ≤ l.length → 8 * (l.length - j) + 1 ≤ n → ∀ top, Hs (fun K => ref08_rows K l (j : Int) declT top) (QR TT (if begD l top j = true then mDecl l n top j else (.nil, j, 0)))
def JP (l : List Token) (n : Nat) : Prop := ∀ j, j ≤ l.length → 8 * (l.length - j) + 1 ≤ n → Hs (fun K => ref08_rows K l (j : Int) specT false) (QR TT (if begS l j = true then mSpec l n j else (.nil, j, 0)))
def JD (l : List Token) (n : Nat) : Prop := ∀ j, j ≤ l.length → 8 * (l.length - j) + 2 ≤ n → ∀ top out, out.length ≤ j → Hs (fun K => ref08_many_l0 K l (j : Int) declT top out) (QN [] (mDecls l n top out j))
def JS (l : List Token) (n : Nat) : Prop := ∀ j, j ≤ l.length → 8 * (l.length - j) + 2 ≤ n → ∀ out, out.length ≤ j → Hs (fun K => ref08_many_l0 K l (j : Int) specT false out) (QR TL (mSpecs l n out j))
theorem dm_rowsD (ihM : JX l n 2 ref08_mod (mMod l n)) (ihS : JX l n 2 ref08_sig (mSig l n)) : JE l (n + 1) := by
  intro i hi hn top
  rw [← rows_decl]
  exact hs_rows hl hT ihM ihS (by decide) (by decide) hi (by omega) top
theorem dm_rowsS (ihM : JX l n 2 ref08_mod (mMod l n)) (ihS : JX l n 2 ref08_sig (mSig l n)) : JP l (n + 1) := by
  intro i hi hn
  rw [← rows_spec (top := false)]
  exact hs_rows hl hT ihM ihS (by decide) (by decide) hi (by omega) false
omit hT in
theorem decl_ne {top : Bool} {i : Nat} (hi : i ≤ l.length) (hn : 8 * (l.length - i) + 1 ≤ n) (hb : begD l top i = true) (he : (mDecl l n top i).2.2 = 0) : (mDecl l n top i).1 ≠ .nil := by
  obtain ⟨v, h1, h2, h3, h4, h5, h6⟩ := (pm_all hl n).2.2.2.2.2.2.2.2.2 i hi hn top hb
  rw [← h5 he]; exact h6
omit hT in
theorem spec_ne {i : Nat} (hi : i ≤ l.length) (hn : 8 * (l.length - i) + 1 ≤ n) (hb : begS l i = true) (he : (mSpec l n i).2.2 = 0) : (mSpec l n i).1 ≠ .nil := by
  obtain ⟨v, h1, h2, h3, h4, h5, h6⟩ := (pm_all hl n).2.2.2.2.2.2.2.1 i hi hn hb
  rw [← h5 he]; exact h6
omit hT in
theorem dm_many (ihE : JE l n) (ihD : JD l n) : JD l (n + 1) := by
  intro i hi hn top out ho
  rw [mDecls]
  refine Hs.step (fun k => by rw [ref08_many_l0]) ?_
  have p := ihE i hi (by omega) top
  by_cases hb : begD l top i = true
  · rw [if_pos hb] at p
    rw [if_pos (show (anyK l i [kVal, kType, kData, kStr, kOpen, kInc] || (top && anyK l i [kSig, kFun])) = true from hb)]
    have b := mb_D hl (n := n) (top := top) (i := i) (by omega)
    have hne := decl_ne hl hi (by omega) hb (n := n)
    generalize mDecl l n top i = g1 at *
    obtain ⟨g1a, g1b, g1c⟩ := b
    refine Hs.parN p (fun h1 _ => ?_) (fun a _ he => ?_)
    · have g1c := g1c h1
      have hne := hne h1
      refine Hs.n (fun h => absurd rfl h) (fun _ => ?_)
      obtain ⟨t, j, e⟩ := g1
      cases t with
      | nil => exact absurd rfl hne
      | node c m s s' kk =>
        refine Hs.opt (appL_ok (by simp; omega)) ?_
        exact ihD j (by omega) (by simp only at g1c; omega) _ _ (by simp only at g1c; simp; omega)
    · refine Hs.n (fun _ => ?_) (fun h => absurd h he)
      exact Hs.pure ⟨⟨rfl, rfl, fun h => absurd h he, trivial⟩, fun _ => rfl⟩
  · rw [if_neg hb] at p
    rw [if_neg (show ¬ (anyK l i [kVal, kType, kData, kStr, kOpen, kInc] || (top && anyK l i [kSig, kFun])) = true from hb)]
    obtain ⟨⟨a, i', e'⟩, h1, h2, h3, h4, _⟩ := p
    simp only at h2 h3 h4
    have h4 := h4 trivial
    subst h2 h3 h4
    refine Hs.evb h1 ?_
    refine Hs.n (fun h => absurd rfl h) (fun _ => ?_)
    exact Hs.pure ⟨⟨rfl, rfl, fun _ => rfl, trivial⟩, fun h => absurd rfl h⟩
omit hT in
theorem dm_specs (ihE : JP l n) (ihD : JS l n) : JS l (n + 1) := by
  intro i hi hn out ho
  rw [mSpecs]
  refine Hs.step (fun k => by rw [ref08_many_l0]) ?_
  have p := ihE i hi (by omega)
  by_cases hb : begS l i = true
  · rw [if_pos hb] at p
    rw [if_pos (show anyK l i [kVal, kType, kData, kStr, kInc, kShare] = true from hb)]
    have b := mb_Sp hl (n := n) (i := i) (by omega)
    have hne := spec_ne hl hi (by omega) hb (n := n)
    generalize mSpec l n i = g1 at *
    obtain ⟨g1a, g1b, g1c⟩ := b
    refine Hs.parR p (fun h1 _ => ?_) (fun a _ he => ?_)
    · have g1c := g1c h1
      have hne := hne h1
      refine Hs.n (fun h => absurd rfl h) (fun _ => ?_)
      obtain ⟨t, j, e⟩ := g1
      cases t with
      | nil => exact absurd rfl hne
      | node c m s s' kk =>
        refine Hs.opt (appL_ok (by simp; omega)) ?_
        exact ihD j (by omega) (by simp only at g1c; omega) _ (by simp only at g1c; simp; omega)
    · refine Hs.n (fun _ => ?_) (fun h => absurd h he)
      exact Hs.pure ⟨rfl, rfl, fun h => absurd h he, trivial⟩
  · rw [if_neg hb] at p
    rw [if_neg (show ¬ anyK l i [kVal, kType, kData, kStr, kInc, kShare] = true from hb)]
    obtain ⟨⟨a, i', e'⟩, h1, h2, h3, h4, _⟩ := p
    simp only at h2 h3 h4
    have h4 := h4 trivial
    subst h2 h3 h4
    refine Hs.evb h1 ?_
    refine Hs.n (fun h => absurd rfl h) (fun _ => ?_)
    exact Hs.pure ⟨rfl, rfl, fun _ => rfl, trivial⟩
omit hl hT in
theorem many1 {i : Int} {T : List Row} {top : Bool} {Q : List Tr × Int × Int → Prop} (h : Hs (fun K => ref08_many_l0 K l i T top []) Q) : Hs (fun K => ref08_many K l i T top) Q :=
  Hs.step (fun k => by rw [ref08_many]) h
omit hT in
theorem dm_mod (ihP : JX l n 1 ref08_prim (mPrim l n)) (ihML : NL l n ref08_mod_l0 (mModL l n)) : NX l (n + 1) 2 ref08_mod (mMod l (n + 1)) := by
  intro i hi hn
  rw [mMod]
  refine Hs.step (fun k => by rw [ref08_mod]) ?_
  have b := mb_P hl (n := n) (i := i) (by omega)
  have p := ihP i (by omega) (by omega)
  generalize mPrim l n i = g1 at *
  obtain ⟨g1a, g1b, g1c⟩ := b
  refine Hs.parN p (fun h1 _ => ?_) (fun a _ he => ?_)
  · have g1c := g1c h1
    exact ihML g1.2.1 (by omega) (by omega) _
  · refine Hs.step (F := fun K => ref08_mod_l0 K _ _ _ _) (fun k => by rw [ref08_mod_l0]) ?_
    refine Hs.d (fun h => absurd h he) (fun _ => ?_)
    refine Hs.n (fun _ => ?_) (fun h => absurd h he)
    exact Hs.pure ⟨⟨rfl, rfl, fun h => absurd h he, trivial⟩, fun _ => rfl⟩
omit hT in
theorem dm_modc (ihS : JX l n 2 ref08_sig (mSig l n)) (ihML : NL l n ref08_mod_l0 (mModL l n)) {i : Nat} (hi : i < l.length) (hn : 8 * (l.length - i) + 2 ≤ n + 1) (m : Tr) (N : Int) : Hs (fun K => ref08_mod_c0 K l (i : Int) m N) (QN .nil (bnd .nil (mSig l n (i + 1)) fun s i => mModL l n (.node 43 N [] [] [m, s]) i)) := by
  refine Hs.step (fun k => by rw [ref08_mod_c0]) ?_
  rw [wr1 (by omega)]
  have b := mb_S hl (n := n) (i := i + 1) (by omega)
  have p := ihS (i + 1) (by omega) (by omega)
  generalize mSig l n (i + 1) = g1 at *
  obtain ⟨g1a, g1b, g1c⟩ := b
  refine Hs.parN p (fun h1 _ => ?_) (fun a _ he => ?_)
  · have g1c := g1c h1
    exact ihML g1.2.1 (by omega) (by omega) _
  · refine Hs.step (F := fun K => ref08_mod_l0 K _ _ _ _) (fun k => by rw [ref08_mod_l0]) ?_
    refine Hs.d (fun h => absurd h he) (fun _ => ?_)
    refine Hs.n (fun _ => ?_) (fun h => absurd h he)
    exact Hs.pure ⟨⟨rfl, rfl, fun h => absurd h he, trivial⟩, fun _ => rfl⟩
omit hT in
theorem dm_modl (ihS : JX l n 2 ref08_sig (mSig l n)) (ihML : NL l n ref08_mod_l0 (mModL l n)) : NL l (n + 1) ref08_mod_l0 (mModL l (n + 1)) := by
  intro i hi hn m
  rw [mModL]
  refine Hs.step (fun k => by rw [ref08_mod_l0]) ?_
  refine Hs.d (fun _ => ?_) (fun h => absurd rfl h)
  refine Hs.evb (ev_rKey l _ _) ?_
  by_cases k0 : keyS l (i : Int) [58] = true
  · rw [if_pos k0]
    have hin := key_in k0
    refine Hs.isT k0 ?_
    refine Hs.evb (ev_rKey l _ _) ?_
    refine Hs.isF (key_ne k0 (by decide)) ?_
    exact dm_modc hl ihS ihML (by omega) (by omega) m 0
  rw [if_neg k0]
  refine Hs.isF (by simpa using k0) ?_
  refine Hs.evb (ev_rKey l _ _) ?_
  by_cases k1 : keyS l (i : Int) [58, 62] = true
  · rw [if_pos k1]
    have hin := key_in k1
    refine Hs.isT k1 ?_
    refine Hs.evb (ev_rKey l _ _) ?_
    refine Hs.isT k1 ?_
    exact dm_modc hl ihS ihML (by omega) (by omega) m 1
  rw [if_neg k1]
  refine Hs.isF (by simpa using k1) ?_
  refine Hs.n (fun h => absurd rfl h) (fun _ => ?_)
  exact Hs.pure ⟨⟨rfl, rfl, fun _ => rfl, trivial⟩, fun h => absurd rfl h⟩
omit hT in
theorem dm_sig (ihB : JX l n 1 ref08_body (mBody l n)) (ihSL : NL l n ref08_sig_l0 (mSigL l n)) : NX l (n + 1) 2 ref08_sig (mSig l (n + 1)) := by
  intro i hi hn
  rw [mSig]
  refine Hs.step (fun k => by rw [ref08_sig]) ?_
  have b := mb_B hl (n := n) (i := i) (by omega)
  have p := ihB i (by omega) (by omega)
  generalize mBody l n i = g1 at *
  obtain ⟨g1a, g1b, g1c⟩ := b
  refine Hs.parN p (fun h1 _ => ?_) (fun a _ he => ?_)
  · have g1c := g1c h1
    exact ihSL g1.2.1 (by omega) (by omega) _
  · refine Hs.step (F := fun K => ref08_sig_l0 K _ _ _ _) (fun k => by rw [ref08_sig_l0]) ?_
    refine Hs.d (fun h => absurd h he) (fun _ => ?_)
    refine Hs.n (fun _ => ?_) (fun h => absurd h he)
    exact Hs.pure ⟨⟨rfl, rfl, fun h => absurd h he, trivial⟩, fun _ => rfl⟩
theorem dm_sigl (ihM : JX l n 2 ref08_mod (mMod l n)) (ihS : JX l n 2 ref08_sig (mSig l n)) (ihSL : NL l n ref08_sig_l0 (mSigL l n)) : NL l (n + 1) ref08_sig_l0 (mSigL l (n + 1)) := by
  intro i hi hn m
  rw [mSigL]
  refine Hs.step (fun k => by rw [ref08_sig_l0]) ?_
  refine Hs.d (fun _ => ?_) (fun h => absurd rfl h)
  refine Hs.evb (ev_rKey l _ _) ?_
  by_cases k0 : keyS l (i : Int) kWhere = true
  · rw [if_pos k0]
    have hin := key_in k0
    refine Hs.isT k0 ?_
    rw [wr1 (by omega)]
    have e : (bnd .nil (ks l [kType] (i + 1)) fun _ i => bnd .nil (lgR l i) fun g i => bnd .nil (ks l [[61]] i) fun _ i => bnd .nil (tyR l i) fun t i => mSigL l n (.node 52 0 g [] [m, t]) i) =
        (bnd .nil (shR l n [84, 108, 61, 116] ([], [], [m]) (i + 1)) fun a i => mSigL l n (.node 52 0 a.1 a.2.1 a.2.2) i : RT) := by
      simp (config := {decide := true}) only [shR, bnd_assoc, bnd_ok, ↓reduceIte, List.nil_append, List.cons_append]
    rw [e]
    have b : Pz l i 0 (bnd .nil (shR l n [84, 108, 61, 116] ([], [], [m]) (i + 1)) fun _ i => (.nil, i, 0) : RT) := by
      simp (config := {decide := true}) only [shR, bnd_assoc, bnd_ok, ↓reduceIte, List.nil_append, List.cons_append]
      have b1 := bw_ks l [kType] (i + 1) (by omega)
      generalize ks l [kType] (i + 1) = g1 at *
      obtain ⟨g1a, g1b⟩ := b1
      refine pz_bnd (by omega) g1b fun h1 => ?_
      have b2 := bw_lg (l := l) (i := g1.2.1) (by omega)
      generalize lgR l g1.2.1 = g2 at *
      obtain ⟨g2a, g2b⟩ := b2
      refine pz_bnd (by omega) g2b fun h2 => ?_
      have b3 := bw_ks l [[61]] g2.2.1 (by omega)
      generalize ks l [[61]] g2.2.1 = g3 at *
      obtain ⟨g3a, g3b⟩ := b3
      refine pz_bnd (by omega) g3b fun h3 => ?_
      have b4 := ty_pz hl (i := g3.2.1) (by omega)
      generalize tyR l g3.2.1 = g4 at *
      obtain ⟨g4a, g4b, g4c⟩ := b4
      refine pz_bnd (by omega) g4b fun h4 => ?_
      have g4c := g4c h4
      have : Tr.nil.w = 1 := rfl
      exact ⟨by simp only; omega, by simp only; omega, fun _ => ⟨by simp only; omega, by simp only; omega⟩⟩
    obtain ⟨⟨x1, x2, x3, x4, x5, x6, x7⟩, h1, h2, h3, h4⟩ := hs_part hl hT ihM ihS 52 0 (sh := [84, 108, 61, 116]) (by decide) (i := i + 1) ([], [], [m]) (by omega) (by omega) (by simp)
    simp only at h2 h3 h4
    subst h2 h3
    generalize shR l n [84, 108, 61, 116] ([], [], [m]) (i + 1) = g at *
    refine Hs.evb h1 ?_
    unfold bnd at b ⊢
    by_cases he : g.2.2 = 0
    · rw [if_pos he] at b ⊢
      have := h4 he
      simp only [Prod.mk.injEq] at this
      obtain ⟨e1, e2, e3, e4, e5⟩ := this
      subst e1 e2 e3 e4 e5
      obtain ⟨b1, b2, b3⟩ := b
      have b3 := (b3 rfl).1
      simp only at b1 b2 b3
      show Hs (fun K => ref08_sig_l0 K l ((g.2.1 : Nat) : Int) (.node 52 0 g.1.1 g.1.2.1 g.1.2.2) g.2.2) _
      rw [he]
      exact ihSL g.2.1 (by omega) (by omega) _
    · rw [if_neg he]
      refine Hs.step (F := fun K => ref08_sig_l0 K _ _ _ _) (fun k => by rw [ref08_sig_l0]) ?_
      refine Hs.d (fun h => absurd h he) (fun _ => ?_)
      refine Hs.n (fun _ => ?_) (fun h => absurd h he)
      exact Hs.pure ⟨⟨rfl, rfl, fun h => absurd h he, trivial⟩, fun _ => rfl⟩
  rw [if_neg k0]
  refine Hs.isF (by simpa using k0) ?_
  refine Hs.n (fun h => absurd rfl h) (fun _ => ?_)
  exact Hs.pure ⟨⟨rfl, rfl, fun _ => rfl, trivial⟩, fun h => absurd rfl h⟩
theorem dm_body (ihS : JS l n) : JX l (n + 1) 1 ref08_body (mBody l (n + 1)) := by
  intro i hi hn
  rw [mBody]
  refine Hs.step (fun k => by rw [ref08_body]) ?_
  refine Hs.evb (ev_rKey l _ _) ?_
  by_cases k0 : keyS l (i : Int) kSg = true
  · rw [if_pos k0]
    have hin := key_in k0
    refine Hs.isT k0 ?_
    refine Hs.evb ev_specRows ?_
    rw [wr1 (by omega)]
    have b := mb_Ss hl (n := n) (out := []) (i := i + 1) (by omega)
    have p := many1 (ihS (i + 1) (by omega) (by omega) [] (by simp))
    generalize mSpecs l n [] (i + 1) = g1 at *
    obtain ⟨g1a, g1b, g1c⟩ := b
    refine Hs.parR p (fun h1 _ => ?_) (fun a _ he => ?_)
    · refine Hs.n (fun h => absurd rfl h) (fun _ => ?_)
      refine Hs.parRU (rKeys hl [kEnd] (by decide) g1.2.1 (by omega)) (fun _ => ?_) (fun he => ?_)
      · exact Hs.evb (nodeR ..) (Hs.pure ⟨rfl, rfl, fun _ => rfl, trivial⟩)
      · exact Hs.evb (nodeR ..) (Hs.pure ⟨rfl, rfl, fun h => absurd h he, trivial⟩)
    · refine Hs.n (fun _ => ?_) (fun h => absurd h he)
      exact Hs.pure ⟨rfl, rfl, fun h => absurd h he, trivial⟩
  rw [if_neg k0]
  refine Hs.isF (by simpa using k0) ?_
  have hNin := name_in (l := l) (i := (i : Int))
  have hN := ev_rName hT (i : Int)
  unfold nmR
  generalize nameS l (i : Int) = N at *
  obtain ⟨s, b⟩ := N
  refine Hs.evb hN ?_
  refine Hs.step (F := fun K => ref08_body_c0 K (i : Int) s b) (fun k => by rw [ref08_body_c0]) ?_
  cases b with
  | false =>
    rw [if_neg (by simp), bnd_no (by decide)]
    exact Hs.isT rfl (Hs.pure ⟨rfl, rfl, fun h => absurd (show (6 : Int) = 0 from h) (by decide), trivial⟩)
  | true =>
    have := hNin rfl
    rw [if_pos rfl, bnd_ok, wr1 (by omega)]
    refine Hs.isF rfl ?_
    exact Hs.evb (nodeR ..) (Hs.pure ⟨rfl, rfl, fun _ => rfl, trivial⟩)
omit hT in
theorem dm_primc (ihM : JX l n 2 ref08_mod (mMod l n)) {i : Nat} (hi : i ≤ l.length) (hn : 8 * (l.length - i) + 2 ≤ n) (s : List UInt8) (app : Bool) : Hs (fun K => ref08_prim_c1 K l s app (i : Int)) (QR TT (bnd .nil (mMod l n i) fun m j => bnd .nil (ks l [[41]] j) fun _ j => (if app = true then .node 42 0 s [] [m] else m, j, 0))) := by
  refine Hs.step (fun k => by rw [ref08_prim_c1]) ?_
  have b := mb_M hl (n := n) (i := i) hi
  have p := ihM i hi hn
  generalize mMod l n i = g1 at *
  obtain ⟨g1a, g1b, g1c⟩ := b
  refine Hs.parR p (fun h1 _ => ?_) (fun a _ he => ?_)
  · refine Hs.n (fun h => absurd rfl h) (fun _ => ?_)
    refine Hs.parRU (rKeys hl [[41]] (by decide) g1.2.1 (by omega)) (fun _ => ?_) (fun he => ?_)
    · cases app with
      | false => exact Hs.isF rfl (Hs.pure ⟨rfl, rfl, fun _ => rfl, trivial⟩)
      | true => exact Hs.isT rfl (Hs.evb (nodeR ..) (Hs.pure ⟨rfl, rfl, fun _ => rfl, trivial⟩))
    · cases app with
      | false => exact Hs.isF rfl (Hs.pure ⟨rfl, rfl, fun h => absurd h he, trivial⟩)
      | true => exact Hs.isT rfl (Hs.evb (nodeR ..) (Hs.pure ⟨rfl, rfl, fun h => absurd h he, trivial⟩))
  · refine Hs.n (fun _ => ?_) (fun h => absurd h he)
    exact Hs.pure ⟨rfl, rfl, fun h => absurd h he, trivial⟩
theorem dm_prim (ihM : JX l n 2 ref08_mod (mMod l n)) (ihD : JD l n) : JX l (n + 1) 1 ref08_prim (mPrim l (n + 1)) := by
  intro i hi hn
  rw [mPrim]
  refine Hs.step (fun k => by rw [ref08_prim]) ?_
  refine Hs.evb (ev_rKey l _ _) ?_
  by_cases k0 : keyS l (i : Int) kStruct = true
  · rw [if_pos k0]
    have hin := key_in k0
    refine Hs.isT k0 ?_
    refine Hs.evb ev_declRows ?_
    rw [wr1 (by omega)]
    have b := mb_Ds hl (n := n) (top := false) (out := []) (i := i + 1) (by omega)
    have p : Hs _ (QR TL _) := (many1 (ihD (i + 1) (by omega) (by omega) false [] (by simp))).weak fun _ k => k.1
    generalize mDecls l n false [] (i + 1) = g1 at *
    obtain ⟨g1a, g1b, g1c⟩ := b
    refine Hs.parR p (fun h1 _ => ?_) (fun a _ he => ?_)
    · refine Hs.n (fun h => absurd rfl h) (fun _ => ?_)
      refine Hs.parRU (rKeys hl [kEnd] (by decide) g1.2.1 (by omega)) (fun _ => ?_) (fun he => ?_)
      · exact Hs.evb (nodeR ..) (Hs.pure ⟨rfl, rfl, fun _ => rfl, trivial⟩)
      · exact Hs.evb (nodeR ..) (Hs.pure ⟨rfl, rfl, fun h => absurd h he, trivial⟩)
    · refine Hs.n (fun _ => ?_) (fun h => absurd h he)
      exact Hs.pure ⟨rfl, rfl, fun h => absurd h he, trivial⟩
  rw [if_neg k0]
  refine Hs.isF (by simpa using k0) ?_
  have hN := ev_rName hT (i : Int)
  have hnk := name_nokey (l := l) (i := (i : Int)) (s := [40])
  generalize nameS l (i : Int) = N at *
  obtain ⟨s, b⟩ := N
  refine Hs.evb hN ?_
  refine Hs.step (F := fun K => ref08_prim_c0 K l (i : Int) s b) (fun k => by rw [ref08_prim_c0]) ?_
  simp only at hnk ⊢
  have tail : Hs (fun K => (ref06_Long K l (i : Int)).bind fun (v21, v22) => iteS (!v22) (some ((.nil, (i : Int), 6) : Tr × Int × Int)) ((ref06_Node K 41 v21 []).bind fun v23 => some (v23, IntKind.i64.wrap ((i : Int) + 1), 0))) (QR TT (bnd .nil (lgR l i) fun s i => (.node 41 0 s [] [], i, 0))) := by
    have hLin := long_in (l := l) (i := (i : Int))
    have hL := ev_rLong l (i : Int)
    unfold lgR
    generalize longS l (i : Int) = N at *
    obtain ⟨s, b⟩ := N
    refine Hs.evb hL ?_
    cases b with
    | false =>
      rw [if_neg (by simp), bnd_no (by decide)]
      exact Hs.isT rfl (Hs.pure ⟨rfl, rfl, fun h => absurd (show (6 : Int) = 0 from h) (by decide), trivial⟩)
    | true =>
      have := hLin rfl
      rw [if_pos rfl, bnd_ok, wr1 (by omega)]
      refine Hs.isF rfl ?_
      exact Hs.evb (nodeR ..) (Hs.pure ⟨rfl, rfl, fun _ => rfl, trivial⟩)
  have par : (b = true → keyS l ((i + 1 : Nat) : Int) [40] = false) → Hs (fun K => (ref06_Key K l (i : Int) [40]).bind fun v20 => iteS v20 (ref08_prim_c1 K l s false (IntKind.i64.wrap ((i : Int) + 1))) ((ref06_Long K l (i : Int)).bind fun (v21, v22) => iteS (!v22) (some ((.nil, (i : Int), 6) : Tr × Int × Int)) ((ref06_Node K 41 v21 []).bind fun v23 => some (v23, IntKind.i64.wrap ((i : Int) + 1), 0))))
      (QR TT (if keyS l (i : Int) [40] = true then bnd .nil (mMod l n (i + 1)) fun m i => bnd .nil (ks l [[41]] i) fun _ i => (m, i, 0)
        else if b = true ∧ keyS l ((i + 1 : Nat) : Int) [40] = true then bnd .nil (mMod l n (i + 2)) fun m j => bnd .nil (ks l [[41]] j) fun _ j => (.node 42 0 s [] [m], j, 0)
        else bnd .nil (lgR l i) fun s i => (.node 41 0 s [] [], i, 0))) := by
    intro hb
    refine Hs.evb (ev_rKey l _ _) ?_
    by_cases k1 : keyS l (i : Int) [40] = true
    · rw [if_pos k1]
      have hin := key_in k1
      refine Hs.isT k1 ?_
      rw [wr1 (by omega)]
      exact dm_primc hl ihM (by omega) (by omega) s false
    rw [if_neg k1, if_neg (fun h => by have := hb h.1; rw [h.2] at this; cases this)]
    exact Hs.isF (by simpa using k1) tail
  cases b with
  | false => exact Hs.isF rfl (par (fun h => by cases h))
  | true =>
    refine Hs.isT rfl ?_
    have hi2 : IntKind.i64.wrap ((i : Int) + 1) = ((i + 1 : Nat) : Int) := wr1 (by omega)
    by_cases k2 : keyS l ((i + 1 : Nat) : Int) [40] = true
    · have hin := key_in k2
      rw [if_neg (by rw [hnk rfl]; simp), if_pos ⟨rfl, k2⟩]
      rw [hi2]
      refine Hs.evb (ev_rKey l _ _) ?_
      refine Hs.isT k2 ?_
      rw [wr2 (by omega)]
      exact dm_primc hl ihM (by omega) (by omega) s true
    · have par := par (fun _ => by simpa using k2)
      rw [hi2] at par ⊢
      refine Hs.evb (ev_rKey l _ _) ?_
      exact Hs.isF (by simpa using k2) par
/-- the document's parser of modules, whole -/
theorem dm_all : ∀ n, NX l n 2 ref08_mod (mMod l n) ∧ NL l n ref08_mod_l0 (mModL l n) ∧ JX l n 1 ref08_prim (mPrim l n) ∧ NX l n 2 ref08_sig (mSig l n) ∧ NL l n ref08_sig_l0 (mSigL l n) ∧ JX l n 1 ref08_body (mBody l n) ∧ JS l n ∧ JP l n ∧ JD l n ∧ JE l n := by
  intro n
  induction n with
  | zero => exact ⟨fun j _ h => by omega, fun j _ h => by omega, jx_zero (by decide), fun j _ h => by omega, fun j _ h => by omega, jx_zero (by decide), fun j _ h => by omega, fun j _ h => by omega, fun j _ h => by omega, fun j _ h => by omega⟩
  | succ n ih =>
    obtain ⟨i1, i2, i3, i4, i5, i6, i7, i8, i9, i10⟩ := ih
    exact ⟨dm_mod hl i3 i2, dm_modl hl i4.x i2, dm_prim hl hT i1.x i9, dm_sig hl i6 i5, dm_sigl hl hT i1.x i4.x i5, dm_body hl hT i7, dm_specs hl i8 i7, dm_rowsS hl hT i1.x i4.x, dm_many hl i10 i9, dm_rowsD hl hT i1.x i4.x⟩
end
end Go.Proofs.YtnogkihchgnbcaaGreatDoor

