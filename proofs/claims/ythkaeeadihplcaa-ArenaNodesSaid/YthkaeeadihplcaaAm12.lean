/- The abstract machine, part 12: what the printed proofs lean on: loops by rounds, lists of one kind, tests. -/
import Derived.Test.YthkaeeadihplcaaAm11
namespace Go.Am
open Go

def getI {α : Type} (l : List α) (i : Int) : Option α := if 0 ≤ i then l[i.toNat]? else none
theorem getI_some {α : Type} {l : List α} {i : Int} {x : α} (h : getI l i = some x) : 0 ≤ i ∧ i < l.length ∧ l[i.toNat]? = some x := by
  unfold getI at h
  split at h
  · rename_i h0
    have := (List.getElem?_eq_some_iff.1 h).1
    exact ⟨h0, by omega, h⟩
  · cases h

section
variable {P : Program} {T : TT} {n : Nat} {t : Tau} {s : Store}

/-- A loop, by the rounds that are left ('F k x': from x on it comes to what is wanted within k rounds). -/
theorem aw_loop_ind {X : Type} {c : Code} {Q : APost} (F : Nat → X → Prop) (L : X → List (Nat × AV)) (S : X → Store) (h0 : ∀ x, ¬ F 0 x)
    (hs : ∀ k x, F (k + 1) x → AWp P n c (aThen (fun t s => ∃ x', F k x' ∧ ((L x').map (·.1)).map t = (L x').map (·.2) ∧ s = S x') Q) (tauOf (L x)) (S x)) (k : Nat) (x : X) (hx : F k x)
    (ht : ((L x).map (·.1)).map t = (L x).map (·.2)) (he : s = S x) : AWp P n (.loop c) Q t s := by
  subst he
  refine aw_trim (L x) ht (aw_loop k ?_)
  clear ht
  induction k generalizing x with
  | zero => exact h0 x hx
  | succ k ih =>
    refine (hs k x hx).mono ?_
    intro e t' s' hq
    cases e with
    | normal =>
      obtain ⟨x', q1, q2, rfl⟩ := hq
      have := ih x' q1
      cases k with
      | zero => exact absurd q1 (h0 x')
      | succ k => exact aw_trim (L x') q2 this
    | _ => exact hq

theorem drop_map {α : Type} {g : α → AV} : ∀ {l : List α} {j : Nat} {x : α}, l[j]? = some x → ∃ r, (l.map g).drop j = g x :: r
  | [], _, _, h => by simp at h
  | y :: l, 0, x, h => by simp at h; subst h; exact ⟨_, rfl⟩
  | y :: l, j + 1, x, h => by
    simp at h
    exact drop_map (l := l) (j := j) h

theorem drop_flat {α : Type} {e : α → List AV} {sz : Nat} (he : ∀ x, (e x).length = sz) : ∀ {l : List α} {j : Nat} {x : α}, l[j]? = some x → ∃ r, (l.flatMap e).drop (j * sz) = e x ++ r
  | [], _, _, h => by simp at h
  | y :: l, 0, x, h => by simp at h; subst h; exact ⟨l.flatMap e, by simp⟩
  | y :: l, j + 1, x, h => by
    simp at h
    obtain ⟨r, hr⟩ := drop_flat he (l := l) (j := j) h
    refine ⟨r, ?_⟩
    rw [List.flatMap_cons, show (j + 1) * sz = (e y).length + j * sz from by rw [he, Nat.add_mul]; omega, List.drop_append, List.drop_of_length_le (by omega)]
    simpa using hr

/-- An element's address in an immutable slice of cells of one kind. -/
theorem aop_idx1 {α : Type} (h : TTok P T) {o : Oper} {ty e : Nat} {x y : Operand} {g : α → AV} {l : List α} {fu : Bool} {k : IntKind} {j : Int} {v : α} (ho : o.op = .indexAddr ty x y) (hk : lk T.kd ty = some (.slice e)) (hsz : lk T.sz e = some 1)
    (hx : ev t x = .slc (l.map g) l.length fu) (hy : ev t y = .lit (.int k j)) (hv : getI l j = some v) : AOp P o t s (fun z s' => z = .ptr [g v] ∧ s' = s) := by
  obtain ⟨h0, h1, h2⟩ := getI_some hv
  intro a w m i hr hop K Q hK
  refine aop_indexSlc h ho hk hsz hx hy h0 h1 a w m i hr hop K Q ?_
  rintro u w' _ _ m' i' ⟨rfl, rfl⟩ hu hr' hst
  obtain ⟨r, hr2⟩ := drop_map (g := g) h2
  refine hK u w' (.ptr [g v]) _ m' i' ⟨rfl, rfl⟩ ?_ hr' hst
  rw [Nat.mul_one, hr2] at hu
  exact Weak.ptr_take [g v] r _ _ _ hu

theorem aop_idxN {α : Type} (h : TTok P T) {o : Oper} {ty e sz : Nat} {x y : Operand} {g : α → List AV} (hg : ∀ x, (g x).length = sz) {l : List α} {fu : Bool} {k : IntKind} {j : Int} {v : α} (ho : o.op = .indexAddr ty x y) (hk : lk T.kd ty = some (.slice e)) (hsz : lk T.sz e = some sz)
    (hx : ev t x = .slc (l.flatMap g) l.length fu) (hy : ev t y = .lit (.int k j)) (hv : getI l j = some v) : AOp P o t s (fun z s' => z = .ptr (g v) ∧ s' = s) := by
  obtain ⟨h0, h1, h2⟩ := getI_some hv
  intro a w m i hr hop K Q hK
  refine aop_indexSlc h ho hk hsz hx hy h0 h1 a w m i hr hop K Q ?_
  rintro u w' _ _ m' i' ⟨rfl, rfl⟩ hu hr' hst
  obtain ⟨r, hr2⟩ := drop_flat hg h2
  refine hK u w' (.ptr (g v)) _ m' i' ⟨rfl, rfl⟩ ?_ hr' hst
  rw [hr2] at hu
  exact Weak.ptr_take (g v) r _ _ _ hu

def subL {α : Type} (l : List α) (a b : Int) : Option (List α) := if 0 ≤ a ∧ a ≤ b ∧ b ≤ l.length then some ((l.take b.toNat).drop a.toNat) else none
def catS (l r : List UInt8) : Option (List UInt8) := if l.length + r.length ≤ 9223372036854775807 then some (l ++ r) else none
def appL {α : Type} (by' : Nat) (l m : List α) : Option (List α) := if (l.length + m.length) * by' ≤ 140737488355328 then some (l ++ m) else none
def mkL {α : Type} (by' : Nat) (z : α) (n : Int) : Option (List α) := if 0 ≤ n ∧ n.toNat * by' ≤ 140737488355328 then some (List.replicate n.toNat z) else none

theorem ite_t {c : Prop} [Decidable c] {α : Type} {a b r : α} (hc : c) (h : (if c then a else b) = r) : a = r := by rwa [if_pos hc] at h
theorem ite_f {c : Prop} [Decidable c] {α : Type} {a b r : α} (hc : ¬ c) (h : (if c then a else b) = r) : b = r := by rwa [if_neg hc] at h
theorem bind_some' {α β : Type} {x : Option α} {f : α → Option β} {r : β} (h : x.bind f = some r) : ∃ y, x = some y ∧ f y = some r := by
  cases x with
  | none => cases h
  | some y => exact ⟨y, rfl, h⟩
theorem nott {b : Bool} (h : ¬ b = true) : b = false := by simpa using h

theorem subL_some {α : Type} {l x : List α} {a b : Int} (h : subL l a b = some x) : 0 ≤ a ∧ a ≤ b ∧ b ≤ l.length ∧ x = (l.take b.toNat).drop a.toNat ∧ x.length = b.toNat - a.toNat := by
  unfold subL at h
  split at h
  · rename_i hc
    cases h
    refine ⟨hc.1, hc.2.1, hc.2.2, rfl, ?_⟩
    rw [List.length_drop, List.length_take]; omega
  · cases h

theorem aop_cat {o : Oper} {ty yt : Nat} {x y : Operand} {l r v : List UInt8} (hv : catS l r = some v) (ho : o.op = .binOp .add ty x y yt) (hx : ev t x = .s l) (hy : ev t y = .s r) :
    AOp P o t s (fun z s' => z = .s v ∧ s' = s) := by
  unfold catS at hv
  split at hv
  · rename_i hc; cases hv; exact aop_strcat ho hx hy hc
  · cases hv

theorem aop_idxS (h : TTok P T) {o : Oper} {ty : Nat} {x y : Operand} {l : List UInt8} {k : IntKind} {j : Int} {c : UInt8} (hv : getI l j = some c) (ho : o.op = .index ty x y) (hk : lk T.kd ty = some .string)
    (hx : ev t x = .s l) (hy : ev t y = .lit (.int k j)) : AOp P o t s (fun v z => v = .lit (.int .u8 c.toNat) ∧ z = s) :=
  aop_indexStr h ho hk hx hy (getI_some hv).1 (getI_some hv).2.2

theorem aop_subS (h : TTok P T) {o : Oper} {ty : Nat} {x : Operand} {lo hi : Option Operand} {l v : List UInt8} {a1 b1 : Int} (hv : subL l a1 b1 = some v) (ho : o.op = .slice ty x lo hi none) (hk : lk T.kd ty = some .string)
    (hx : ev t x = .s l) (hlo : (lo.map (ev t)).getD (.i 0) = .i a1) (hhi : (hi.map (ev t)).getD (.i l.length) = .i b1) : AOp P o t s (fun z s' => z = .s v ∧ s' = s) := by
  obtain ⟨h0, h1, h2, rfl, _⟩ := subL_some hv
  exact aop_sliceStr h ho hk hx hlo hhi h0 h1 h2

theorem AOp.view {o : Oper} {x y : AV} (h : AOp P o t s (fun z s' => z = x ∧ s' = s)) (hv : ∀ m i v, VR m i x v → VR m i y v) : AOp P o t s (fun z s' => z = y ∧ s' = s) := by
  intro a w m i hr hop K Q hK
  refine h a w m i hr hop K Q ?_
  rintro u w' _ _ m' i' ⟨rfl, rfl⟩ hu hr' hst
  exact hK u w' y _ m' i' ⟨rfl, rfl⟩ (hv _ _ _ hu) hr' hst

theorem aop_sub1 {α : Type} (h : TTok P T) {o : Oper} {ty e : Nat} {x : Operand} {lo hi : Option Operand} {g : α → AV} {l v : List α} {fu : Bool} {a1 b1 : Int} (hv : subL l a1 b1 = some v) (ho : o.op = .slice ty x lo hi none) (hk : lk T.kd ty = some (.slice e)) (hsz : lk T.sz e = some 1)
    (hx : ev t x = .slc (l.map g) l.length fu) (hlo : (lo.map (ev t)).getD (.i 0) = .i a1) (hhi : (hi.map (ev t)).getD (.i l.length) = .i b1) : AOp P o t s (fun z s' => z = .slc (v.map g) v.length false ∧ s' = s) := by
  obtain ⟨h0, h1, h2, hv1, hv2⟩ := subL_some hv
  refine (aop_sliceSlc h ho hk hsz hx hlo hhi h0 h1 h2).view fun m i u hu => ?_
  rw [Nat.mul_one, Nat.mul_one, ← List.map_take, ← List.map_drop, ← hv1, ← hv2] at hu
  exact hu

theorem flat_take {α : Type} {e : α → List AV} {sz : Nat} (he : ∀ x, (e x).length = sz) : ∀ (l : List α) (k : Nat), (l.flatMap e).take (k * sz) = (l.take k).flatMap e
  | [], k => by simp
  | y :: l, 0 => by simp
  | y :: l, k + 1 => by
    rw [List.flatMap_cons, List.take_succ_cons, List.flatMap_cons, show (k + 1) * sz = (e y).length + k * sz from by rw [he, Nat.add_mul]; omega, List.take_append, List.take_of_length_le (by omega),
      show (e y).length + k * sz - (e y).length = k * sz from by omega, flat_take he l k]
theorem flat_drop {α : Type} {e : α → List AV} {sz : Nat} (he : ∀ x, (e x).length = sz) : ∀ (l : List α) (k : Nat), (l.flatMap e).drop (k * sz) = (l.drop k).flatMap e
  | [], k => by simp
  | y :: l, 0 => by simp
  | y :: l, k + 1 => by
    rw [List.flatMap_cons, List.drop_succ_cons, show (k + 1) * sz = (e y).length + k * sz from by rw [he, Nat.add_mul]; omega, List.drop_append, List.drop_of_length_le (by omega),
      show (e y).length + k * sz - (e y).length = k * sz from by omega, flat_drop he l k]
    rfl
theorem flat_len {α : Type} {e : α → List AV} {sz : Nat} (he : ∀ x, (e x).length = sz) : ∀ (l : List α), (l.flatMap e).length = l.length * sz
  | [] => by simp
  | y :: l => by rw [List.flatMap_cons, List.length_append, flat_len he l, he, List.length_cons, Nat.add_mul]; omega

theorem aop_subN {α : Type} (h : TTok P T) {o : Oper} {ty e sz : Nat} {x : Operand} {lo hi : Option Operand} {g : α → List AV} (hg : ∀ x, (g x).length = sz) {l v : List α} {fu : Bool} {a1 b1 : Int} (hv : subL l a1 b1 = some v) (ho : o.op = .slice ty x lo hi none) (hk : lk T.kd ty = some (.slice e)) (hsz : lk T.sz e = some sz)
    (hx : ev t x = .slc (l.flatMap g) l.length fu) (hlo : (lo.map (ev t)).getD (.i 0) = .i a1) (hhi : (hi.map (ev t)).getD (.i l.length) = .i b1) : AOp P o t s (fun z s' => z = .slc (v.flatMap g) v.length false ∧ s' = s) := by
  obtain ⟨h0, h1, h2, hv1, hv2⟩ := subL_some hv
  refine (aop_sliceSlc h ho hk hsz hx hlo hhi h0 h1 h2).view fun m i u hu => ?_
  rw [flat_take hg, flat_drop hg, ← hv1, ← hv2] at hu
  exact hu

/-- xs[:len(xs):len(xs)] -/
theorem aop_fullSlc (h : TTok P T) {o : Oper} {ty e sz : Nat} {x y z : Operand} {cs : List AV} {n : Nat} {fu : Bool} (ho : o.op = .slice ty x none (some y) (some z)) (hk : lk T.kd ty = some (.slice e)) (hsz : lk T.sz e = some sz)
    (hx : ev t x = .slc cs n fu) (hy : ev t y = .i n) (hz : ev t z = .i n) : AOp P o t s (fun v z => v = .slc cs n true ∧ z = s) := by
  refine aop_val fun a w m i hr hop => ?_
  rw [ho] at hop
  have v1 := opd (x := x) hop (by simp [Op.operands])
  have v2 := opd (x := y) hop (by simp [Op.operands])
  have v3 := opd (x := z) hop (by simp [Op.operands])
  rw [hx] at v1; rw [hy] at v2; rw [hz] at v3
  have v2' : a.eval y = .int .i64 n := v2
  have v3' : a.eval z = .int .i64 n := v3
  obtain ⟨i0, hi0, hs⟩ := h.size hsz
  have hund := sliceElem h hk
  have hb : ∀ cap : Nat, n ≤ cap → (Instr.sliceBounds true n cap none (some (.int .i64 n)) (some (.int .i64 n))).run P w = .ok (0, n, n) w := fun cap hc => by
    simp [Instr.sliceBounds, run_sliceBound _ _ _ _ _ (show (0 : Int) ≤ n by omega) (show (n : Int) ≤ (cap : Int) by omega), run_sliceBound _ _ _ _ _ (show (0 : Int) ≤ n by omega) (show (n : Int) ≤ (n : Int) by omega)]
  rcases v1 with ⟨h1, h2, q, h3⟩ | ⟨b, o', cap, e1, e2, e2', e3, e4⟩
  · subst h1
    subst h2
    refine ⟨.slice q 0 0, ?_, .inl ⟨rfl, rfl, q, rfl⟩⟩
    simp [execOp, ho, Instr.sliceAt, run_underlying hund, Instr.slice, v2', v3', h3, sizeOf, typeInfo, hi0, hs, Instr.sliceBounds, run_sliceBound _ _ _ _ _ (show (0 : Int) ≤ 0 by omega) (show (0 : Int) ≤ ((0 : Nat) : Int) by omega)]
  · by_cases hn : n = 0
    · refine ⟨.slice (some ⟨b, o', none⟩) n n, ?_, .inr ⟨b, o', n, rfl, Nat.le_refl _, by omega, fun _ => rfl, e4⟩⟩
      subst hn
      simp [execOp, ho, Instr.sliceAt, run_underlying hund, Instr.slice, v2', v3', e1, sizeOf, typeInfo, hi0, hs, Instr.sliceBounds, run_sliceBound _ _ _ _ _ (show (0 : Int) ≤ 0 by omega) (show (0 : Int) ≤ ((0 : Nat) : Int) by omega), run_sliceBound _ _ _ _ _ (show (0 : Int) ≤ 0 by omega) (show (0 : Int) ≤ (cap : Int) by omega)]
    · refine ⟨.slice (some ⟨b, o', none⟩) n n, ?_, .inr ⟨b, o', n, rfl, Nat.le_refl _, by omega, fun _ => rfl, e4⟩⟩
      simp [execOp, ho, Instr.sliceAt, run_underlying hund, Instr.slice, v2', v3', e1, hb cap e2, sizeOf, typeInfo, hi0, hs, add_lit, hn]

theorem appL_some {α : Type} {by' : Nat} {l m x : List α} (h : appL by' l m = some x) : (l.length + m.length) * by' ≤ 140737488355328 ∧ x = l ++ m := by
  unfold appL at h
  split at h
  · rename_i hc; cases h; exact ⟨hc, rfl⟩
  · cases h

theorem aop_app1 {α : Type} (h : TTok P T) {o : Oper} {x y : Operand} {ty e j id fz by' : Nat} {g : α → AV} {l d v : List α} {f : Bool} {zs : List Value} (hv : appL by' l d = some v)
    (ho : o.op = .call ⟨.builtin .append, #[x, y], #[ty, ty]⟩) (hk : lk T.kd ty = some (.slice e)) (hs : lk T.sz e = some 1) (hz : lk T.zero e = some zs) (hzl : Nat.beq zs.length 1 = true) (hby : lk T.by' e = some by') (hb1 : Nat.blt 0 by' = true)
    (hx : ev t x = .row id l.length) (hy : ev t y = .slc (d.map g) d.length f) (hj : s[j]? = some (id, .row e 1 (l.map g) fz)) :
    AOp P o t s (fun z s' => ∃ id', z = .row id' v.length ∧ s' = (id', .row e 1 (v.map g) fz) :: s.eraseIdx j) := by
  obtain ⟨hb, rfl⟩ := appL_some hv
  rw [List.map_append, List.length_append]
  exact aop_append h ho hk hs hz hzl hby hx hy hj (by simp) (by simp) hb hb1

theorem aop_appN {α : Type} (h : TTok P T) {o : Oper} {x y : Operand} {ty e j id fz by' sz : Nat} {g : α → List AV} (hg : ∀ x, (g x).length = sz) {l d v : List α} {f : Bool} {zs : List Value} (hv : appL by' l d = some v)
    (ho : o.op = .call ⟨.builtin .append, #[x, y], #[ty, ty]⟩) (hk : lk T.kd ty = some (.slice e)) (hs : lk T.sz e = some sz) (hz : lk T.zero e = some zs) (hzl : Nat.beq zs.length sz = true) (hby : lk T.by' e = some by') (hb1 : Nat.blt 0 by' = true)
    (hx : ev t x = .row id l.length) (hy : ev t y = .slc (d.flatMap g) d.length f) (hj : s[j]? = some (id, .row e sz (l.flatMap g) fz)) :
    AOp P o t s (fun z s' => ∃ id', z = .row id' v.length ∧ s' = (id', .row e sz (v.flatMap g) fz) :: s.eraseIdx j) := by
  obtain ⟨hb, rfl⟩ := appL_some hv
  rw [List.flatMap_append, List.length_append]
  exact aop_append h ho hk hs hz hzl hby hx hy hj (flat_len hg l) (flat_len hg d) hb hb1

theorem aop_appC1 {α : Type} (h : TTok P T) {o : Oper} {x y : Operand} {ty e by' : Nat} {g : α → AV} {l d v : List α} {f : Bool} {zs : List Value} (hv : appL by' l d = some v)
    (ho : o.op = .call ⟨.builtin .append, #[x, y], #[ty, ty]⟩) (hk : lk T.kd ty = some (.slice e)) (hs : lk T.sz e = some 1) (hz : lk T.zero e = some zs) (hzl : (Nat.beq zs.length 1 && zs.all Value.oneCell') = true) (hby : lk T.by' e = some by') (hb1 : Nat.blt 0 by' = true)
    (hx : ev t x = .slc (l.map g) l.length true) (hy : ev t y = .slc (d.map g) d.length f) :
    AOp P o t s (fun z s' => z = .slc (v.map g) v.length false ∧ s' = s) := by
  obtain ⟨hb, rfl⟩ := appL_some hv
  rw [List.map_append, List.length_append]
  exact aop_appendCopy h ho hk hs hz hzl hby hx hy (by simp) (by simp) hb hb1

theorem tile_one {α : Type} (g : α → AV) (z : α) (v : Value) (hv : Weak (AV.lit v) (g z)) (n : Nat) : WL ((List.range (n * 1)).map fun j => ([v].map AV.lit).getD (j % 1) .any) ((List.replicate n z).map g) := by
  rw [Nat.mul_one]
  have : ∀ (l : List Nat), WL (l.map fun j => ([v].map AV.lit).getD (j % 1) .any) ((List.replicate l.length z).map g) := by
    intro l
    induction l with
    | nil => exact WL.nil
    | cons x l ih => exact WL.cons (by simpa [Nat.mod_one] using hv) ih
  simpa using this (List.range n)

theorem WL.length : ∀ {xs ys : List AV}, WL xs ys → ys.length = xs.length
  | [], _, h => by rw [h]
  | x :: xs, _, ⟨y, ys, h1, _, h3⟩ => by subst h1; simp [WL.length h3]

/-- What the newest row holds may be told otherwise. -/
theorem Rel.weakHead {w m i} {k e sz fz : Nat} {cs ds : List AV} (h : Rel w m i ((k, .row e sz cs fz) :: s)) (hw : WL cs ds) : Rel w m i ((k, .row e sz ds fz) :: s) := by
  have hl := hw.length
  refine ⟨h.mu, fun p hp => ?_, ?_, h.fin⟩
  · rcases List.mem_cons.1 hp with rfl | hp
    · rcases h.obj _ List.mem_cons_self with ⟨g1, g2, g3⟩ | ⟨b, cap, vs, g1, g2, g3, g4, g5, g6, g7, g8, g9⟩
      · subst g2
        cases hw
        exact .inl ⟨g1, rfl, g3⟩
      · exact .inr ⟨b, cap, vs, g1, g2, g3, g4, by rw [hl]; exact g5, by rw [hl]; exact g6, by rw [hl]; exact g7, by rw [hl]; exact hw.vl g8, g9⟩
    · exact h.obj p (List.mem_cons_of_mem _ hp)
  · have := List.pairwise_cons.1 h.apart
    exact List.pairwise_cons.2 ⟨fun q hq => this.1 q hq, this.2⟩

theorem aop_mk1 {α : Type} (h : TTok P T) {o : Oper} {ty e by' : Nat} {x y : Operand} {v : Value} {g : α → AV} {z : α} {r : List α} {k1 k2 : IntKind} {l : Int} (hr : mkL by' z l = some r)
    (ho : o.op = .makeSlice ty x y) (hk : lk T.kd ty = some (.slice e)) (hs : lk T.sz e = some 1) (hz : lk T.zero e = some [v]) (h1 : v.oneCell' = true) (hby : lk T.by' e = some by') (hb1 : Nat.blt 0 by' = true) (hg : Weak (AV.lit v) (g z))
    (hx : ev t x = .lit (.int k1 l)) (hy : ev t y = .lit (.int k2 l)) :
    AOp P o t s (fun v z => ∃ id, v = .row id r.length ∧ z = (id, .row e 1 (r.map g) 0) :: s) := by
  unfold mkL at hr
  split at hr
  · rename_i hc
    cases hr
    rw [List.length_replicate]
    intro a w mu i hr hop K Q hK
    refine aop_makeSlice h ho hk hs hz (by simp [h1, Nat.beq]) hby hx hy hc.1 hc.2 hb1 a w mu i hr hop K Q ?_
    rintro u w' _ _ m' i' ⟨id, rfl, rfl⟩ hu hr' hst
    exact hK u w' (.row id l.toNat) _ m' i' ⟨id, rfl, rfl⟩ hu (hr'.weakHead (tile_one g z v hg _)) ⟨hst.os, hst.tape, hst.output, hst.size, hst.mu, hst.io, hst.block, hst.mu', fun p hp => (by
      rcases List.mem_cons.1 hp with rfl | hp
      · exact hst.ids (id, .row e 1 ((List.range (l.toNat * 1)).map fun j => ([v].map AV.lit).getD (j % 1) .any) 0) List.mem_cons_self
      · exact hst.ids _ (List.mem_cons_of_mem _ hp)), fun b ⟨p, hp, e'⟩ => (by
      rcases List.mem_cons.1 hp with rfl | hp
      · exact hst.blks b ⟨(id, .row e 1 ((List.range (l.toNat * 1)).map fun j => ([v].map AV.lit).getD (j % 1) .any) 0), List.mem_cons_self, e'⟩
      · exact hst.blks b ⟨p, List.mem_cons_of_mem _ hp, e'⟩)⟩
  · cases hr

theorem aop_rowIdx1 {α : Type} (h : TTok P T) {o : Oper} {ty e id : Nat} {x y : Operand} {l : List α} {kd : IntKind} {j : Int} {v : α} (hv : getI l j = some v) (ho : o.op = .indexAddr ty x y) (hk : lk T.kd ty = some (.slice e)) (hsz : lk T.sz e = some 1)
    (hx : ev t x = .row id l.length) (hy : ev t y = .lit (.int kd j)) : AOp P o t s (fun v z => v = .ref id j.toNat ∧ z = s) := by
  obtain ⟨h0, h1, h2⟩ := getI_some hv
  have := aop_indexRow (P := P) (s := s) h ho hk hsz hx hy h0 h1
  rwa [Nat.mul_one] at this

theorem aop_rowLoad1 {α : Type} (h : TTok P T) {o : Oper} {ty : Nat} {x : Operand} {id j e fz : Nat} {g : α → AV} {l : List α} {k : Int} {v : α} (hv : getI l k = some v) (ho : o.op = .load ty x) (hl : T.lay ty = some (false, 1)) (hx : ev t x = .ref id k.toNat) (hj : s[j]? = some (id, .row e 1 (l.map g) fz)) :
    AOp P o t s (fun z s' => z = g v ∧ s' = s) :=
  aop_loadRef h ho hx hj (by rw [hl]; simp [(getI_some hv).2.2])

/-- the store of a value that is told otherwise -/
theorem aop_rowStore1 {α : Type} (h : TTok P T) {o : Oper} {ty : Nat} {x y : Operand} {id j e : Nat} {g : α → AV} {l : List α} {k : Int} {v u : α} {y' : AV} (hv : getI l k = some v) (ho : o.op = .store ty x y) (hl : T.lay ty = some (false, 1)) (hx : ev t x = .ref id k.toNat) (hy : ev t y = y')
    (hw : View (s.set j (id, .row e 1 ((l.map g).set k.toNat y') 0)) y' (g u)) (hsc : y'.scalar = true) (hj : s[j]? = some (id, .row e 1 (l.map g) 0)) :
    AOp P o t s (fun z s' => z = .any ∧ s' = s.set j (id, .row e 1 ((l.set k.toNat u).map g) 0)) := by
  obtain ⟨h0, h1, h2⟩ := getI_some hv
  have hlt : k.toNat < l.length := by omega
  have hjlt : j < s.length := (List.getElem?_eq_some_iff.1 hj).1
  have this := aop_storeRef (P := P) (ds := [y']) h ho hx hj (by rw [hl, hy, hsc]; rfl) (by simp [Nat.ble_eq]; omega)
  have e1 : (l.map g).take k.toNat ++ [y'] ++ (l.map g).drop (k.toNat + [y'].length) = (l.map g).set k.toNat y' := by
    rw [List.set_eq_take_append_cons_drop, if_pos (by simpa using hlt)]
    simp
  rw [e1] at this
  have sh := Shift.cell (t := fun _ => .any) (s := s.set j (id, .row e 1 ((l.map g).set k.toNat y') 0)) (j := j) (id := id) (e := e) k.toNat (x := y') (y := g u) (by rw [List.getElem?_set_self hjlt]) (by rw [List.getElem?_set_self (by simpa using hlt)]) hw
  intro a w m i hr hop K Q hk
  refine this a w m i hr hop K Q ?_
  rintro v w' av s' m' i' ⟨rfl, rfl⟩ hvr hrel hst
  obtain ⟨m2, i2, r1, _, r3⟩ := sh w' m' i' a hrel (fun _ => trivial)
  rw [List.set_set, List.set_set, ← List.map_set] at r1 r3
  exact hk v w' .any _ m2 i2 ⟨rfl, rfl⟩ trivial r1 (hst.trans r3)

def remI (a b : Int) : Option Int := if b = 0 then none else some (a.tmod b)
theorem aop_rem {o : Oper} {ty yt : Nat} {x y : Operand} {k : IntKind} {a b v : Int} (hv : remI a b = some v) (ho : o.op = .binOp .rem ty x y yt) (hx : ev t x = .lit (.int k a)) (hy : ev t y = .lit (.int k b)) :
    AOp P o t s (fun z s' => z = .lit (.int k v) ∧ s' = s) := by
  unfold remI at hv
  split at hv
  · cases hv
  · rename_i hb
    cases hv
    refine aop_val fun act w m i hr hop => ?_
    rw [ho] at hop
    have v1 := opd (x := x) hop (by simp [Op.operands])
    have v2 := opd (x := y) hop (by simp [Op.operands])
    rw [hx] at v1; rw [hy] at v2
    have v1' : act.eval x = .int k a := v1
    have v2' : act.eval y = .int k b := v2
    obtain ⟨u, h1, h2⟩ := run_pint (P := P) (op := .rem) (k := k) (a := a) (b := b) (av := .lit (.int k (a.tmod b))) (by simp [pint, hb]) ty w
    cases h2
    refine ⟨_, ?_, rfl⟩
    simp only [execOp, ho, v1', v2', Sem.run_bind, run_eqGuard (show ∀ cs, Value.int k a ≠ .agg cs from by simp) (by simp), Result.andThen_ok, h1]
    rfl

theorem WL.slc {xs ys : List AV} {n : Nat} {f : Bool} (h : WL xs ys) : Weak (.slc xs n f) (.slc ys n f) := by
  intro m i v hv
  rcases hv with ⟨h1, h2, h3⟩ | ⟨b, o, cap, h1, h2, h3, h4, h5⟩
  · subst h2; cases h; exact .inl ⟨h1, rfl, h3⟩
  · exact .inr ⟨b, o, cap, h1, h2, h3, h4, h.vc h5⟩
theorem Weak.nslc (cs : List AV) (n : Nat) (f : Bool) : Weak (.nslc cs n f) (.slc cs n f) := fun _ _ _ h => by
  rcases h with ⟨h1, h2, a, h3⟩ | h
  · exact .inl ⟨h1, h2, _, h3⟩
  · exact .inr h

/-- A slice is nil or not. -/
theorem aw_slcCases {c : Code} {Q : APost} (k : Nat) {cs : List AV} {j : Nat} {f : Bool} (hx : t k = .slc cs j f) (h1 : j = 0 → cs = [] → AWp P n c Q (t.put (some k) (.lit (.slice none 0 0))) s) (h2 : AWp P n c Q (t.put (some k) (.nslc cs j f)) s) : AWp P n c Q t s := by
  intro a w m i q1 q2 q3 q4
  have hk := q2 k
  rw [hx] at hk
  have put : ∀ y, VR m i y (a.tmps.getD k undef) → TR m i (t.put (some k) y) a := by
    intro y hy x
    simp only [Tau.put]
    by_cases e : x = k
    · subst e; rw [nbeq_self, if_pos rfl]; exact hy
    · rw [nbeq_ne e, if_neg (by simp)]; exact q2 x
  rcases hk with ⟨e1, e2, ad, e3⟩ | hk
  · cases ad with
    | none => exact h1 e1 e2 a w m i q1 (put _ e3) q3 q4
    | some ad => exact h2 a w m i q1 (put _ (.inl ⟨e1, e2, ad, e3⟩)) q3 q4
  · exact h2 a w m i q1 (put _ (.inr hk)) q3 q4
end
end Go.Am
