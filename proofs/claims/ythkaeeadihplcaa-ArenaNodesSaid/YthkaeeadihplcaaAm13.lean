/- The abstract machine, part 13: small steps that the printed proofs take. -/
import Derived.Test.YthkaeeadihplcaaAm12
namespace Go.Am
open Go

def sel : Store → List Nat → Store
  | l, [] => l
  | l, i :: is => match l[i]? with
    | some x => x :: sel (l.eraseIdx i) is
    | none => l

theorem perm_erase : ∀ {l : Store} {i : Nat} {x : Nat × Ob}, l[i]? = some x → l.Perm (x :: l.eraseIdx i)
  | [], _, _, h => by simp at h
  | y :: l, 0, x, h => by simp at h; subst h; exact List.Perm.refl _
  | y :: l, i + 1, x, h => by
    simp at h
    exact ((perm_erase (l := l) (i := i) h).cons y).trans (List.Perm.swap x y _)

theorem perm_sel : ∀ (l : Store) (is : List Nat), l.Perm (sel l is)
  | l, [] => List.Perm.refl _
  | l, i :: is => by
    unfold sel
    split
    · rename_i x hx
      exact (perm_erase hx).trans ((perm_sel (l.eraseIdx i) is).cons x)
    · exact List.Perm.refl _

section
variable {P : Program} {T : TT} {n : Nat} {t : Tau} {s : Store}

theorem Shift.drop {s' : Store} (h : s'.Sublist s) : Shift t s t s' := fun w m i a h1 h2 => ⟨m, i, h1.sub h, h2, (Step.refl w m i s).forget fun p hp => h.subset hp⟩
theorem Shift.sel (is : List Nat) : Shift t s t (sel s is) := fun w m i a h1 h2 => ⟨m, i, h1.perm (perm_sel s is), h2, (Step.refl w m i s).perm (List.Perm.refl _) (perm_sel s is)⟩
theorem aw_sel {c : Code} {Q : APost} (is : List Nat) {s' : Store} (he : sel s is = s') (k : AWp P n c Q t s') : AWp P n c Q t s := by
  subst he; exact aw_shift (Shift.sel is) k
theorem aw_drop {c : Code} {Q : APost} (j : Nat) {s' : Store} (he : s.take j = s') (k : AWp P n c Q t s') : AWp P n c Q t s := by
  subst he; exact aw_shift (Shift.drop (List.take_sublist j s)) k

theorem put_same {k : Nat} {x : AV} (h : t k = x) : t = t.put (some k) x := by
  funext j
  simp only [Tau.put]
  by_cases e : j = k
  · subst e; rw [nbeq_self, if_pos rfl]; exact h
  · rw [nbeq_ne e, if_neg (by simp)]

theorem j_setb {ops : Array Oper} {Q : Tau → Store → Prop} {R : List Nat} {locks : List (Nat × Store)} (k : Nat) {e c : Bool} (h : t k = .b e) (hb : e = c) (g : J P n ops Q R locks (t.put (some k) (.b c)) s) : J P n ops Q R locks t s := by
  subst hb
  rw [put_same h]; exact g
theorem at_setb {ops : Array Oper} {j : Nat} {Q : Tau → Store → Prop} (k : Nat) {e c : Bool} (h : t k = .b e) (hb : e = c) (g : AAt P n ops j Q (t.put (some k) (.b c)) s) : AAt P n ops j Q t s := by
  subst hb
  rw [put_same h]; exact g

theorem at_normal {ops : Array Oper} {j : Nat} {Q : Tau → Store → Prop} (live : List (Nat × AV)) {s' : Store} (h : (live.map (·.1)).map t = live.map (·.2)) (hs : s = s') (k : AAt P n ops j Q (tauOf live) s') : AAt P n ops j Q t s := by
  subst hs; exact at_trim live h k
theorem aw_normal {c : Code} {Q : APost} (live : List (Nat × AV)) {s' : Store} (h : (live.map (·.1)).map t = live.map (·.2)) (hs : s = s') (k : AWp P n c Q (tauOf live) s') : AWp P n c Q t s := by
  subst hs; exact aw_trim live h k

/-- one light one; the store plays no part -/
theorem j_light0 {ops : Array Oper} {Q : Tau → Store → Prop} {R : List Nat} {locks : List (Nat × Store)} (i : Nat) {o : Oper} {av : AV} (ho : ops[i]? = some o) (hk : lightOk ops R i = true) (hd : inB o.dst n = true) (hg : gd ops t o = some true)
    (hop : ∀ s, AOp P o t s (fun x y => x = av ∧ y = s)) (h : J P n ops Q (i :: R) locks (t.put o.dst av) s) : J P n ops Q R locks t s :=
  .light i o av [] ho hk hd (.inr ⟨hg, fun s _ => hop s⟩) (fun p hp => by cases hp) (h.sub fun l hm => by
    rcases List.mem_cons.1 hm with rfl | hm
    · exact .inr rfl
    · exact .inl hm)

/-- one light one that reads an object -/
theorem j_light1 {ops : Array Oper} {Q : Tau → Store → Prop} {R : List Nat} {locks : List (Nat × Store)} (i : Nat) (q : Nat × Ob) {o : Oper} {av : AV} (ho : ops[i]? = some o) (hk : lightOk ops R i = true) (hd : inB o.dst n = true) (hg : gd ops t o = some true)
    (hop : ∀ s, q ∈ s → AOp P o t s (fun x y => x = av ∧ y = s)) {j : Nat} (hj : s[j]? = some q) (h : J P n ops Q (i :: R) ((i, [q]) :: locks) (t.put o.dst av) s) : J P n ops Q R locks t s :=
  .light i o av [q] ho hk hd (.inr ⟨hg, fun s hs => hop s (hs q (by simp))⟩) (fun p hp => by rw [List.mem_singleton.1 hp]; exact List.mem_of_getElem? hj) h

theorem put_swap {t : Tau} {d d2 : Nat} {x y : AV} (h : Nat.beq d d2 = false) : (t.put (some d) x).put (some d2) y = (t.put (some d2) y).put (some d) x := by
  funext k
  simp only [Tau.put]
  by_cases e : k = d
  · subst e
    rw [nbeq_self]
    cases hh : Nat.beq k d2 with
    | true => rw [hh] at h; cases h
    | false => rfl
  · rw [nbeq_ne e]
    simp

/-- Two that each make a new object, in either order. -/
theorem j_new2 {ops : Array Oper} {Q : Tau → Store → Prop} {R : List Nat} {locks : List (Nat × Store)} (i j : Nat) {o o2 : Oper} {ob ob2 : Ob} {d d2 : Nat} (ho : ops[i]? = some o) (ho2 : ops[j]? = some o2)
    (hk : (twoOk ops R i j && (heavyOk ops (i :: R) j && heavyOk ops (j :: R) i) && (!(memb d (readsOf ops j)) && !(memb d2 (readsOf ops i)) && !(Nat.beq d d2))) = true)
    (hdst : o.dst = some d) (hdst2 : o2.dst = some d2) (hd : inB o.dst n = true) (hd2 : inB o2.dst n = true) (hg : gd ops t o = some true) (hg2 : gd ops t o2 = some true)
    (hop : ∀ s, AOp P o t s (fun v z => ∃ k, v = .ref k 0 ∧ z = (k, ob) :: s)) (hop2 : ∀ s, AOp P o2 t s (fun v z => ∃ k, v = .ref k 0 ∧ z = (k, ob2) :: s))
    (hlk : ∀ l ∈ locks, ∀ p ∈ l.2, p ∈ s)
    (h : ∀ a b, J P n ops Q (j :: i :: R) locks ((t.put (some d) (.ref a 0)).put (some d2) (.ref b 0)) ((b, ob2) :: (a, ob) :: s)) : J P n ops Q R locks t s := by
  simp only [Bool.and_eq_true, Bool.not_eq_true'] at hk
  obtain ⟨⟨hk2, hka, hkb⟩, ⟨hr1, hr2⟩, hne⟩ := hk
  have no1 : ∀ {v : AV} {k : Nat}, k ∈ o2.looksAt ops → (t.put (some d) v) k = t k := fun {v k} hm => taup_ne (by
    intro e; cases e
    rw [readsOf_eq ho2, memb_iff.2 hm] at hr1; cases hr1)
  have no2 : ∀ {v : AV} {k : Nat}, k ∈ o.looksAt ops → (t.put (some d2) v) k = t k := fun {v k} hm => taup_ne (by
    intro e; cases e
    rw [readsOf_eq ho, memb_iff.2 hm] at hr2; cases hr2)
  refine .two i o _ j o2 _ ho ho2 hk2 hd hg (hop s) (fun av s' ⟨k, _, e⟩ l hl => .inr fun p hp => e ▸ List.mem_cons_of_mem _ (hlk l hl p hp)) ?_ hd2 hg2 (hop2 s) (fun av s' ⟨k, _, e⟩ l hl => .inr fun p hp => e ▸ List.mem_cons_of_mem _ (hlk l hl p hp)) ?_
  · rintro _ _ ⟨a, rfl, rfl⟩
    rw [hdst]
    refine .heavy j o2 _ ho2 hka hd2 (by rw [gd_congr fun k hm => no1 hm]; exact hg2) ((hop2 _).congr fun k hm => no1 (looksAt_tmp hm)) (fun av s' ⟨k, _, e⟩ l hl => .inr fun p hp => e ▸ List.mem_cons_of_mem _ (List.mem_cons_of_mem _ (hlk l hl p hp))) ?_
    rintro _ _ ⟨b, rfl, rfl⟩
    rw [hdst2]
    exact h a b
  · rintro _ _ ⟨b, rfl, rfl⟩
    rw [hdst2]
    refine .heavy i o _ ho hkb hd (by rw [gd_congr fun k hm => no2 hm]; exact hg) ((hop _).congr fun k hm => no2 (looksAt_tmp hm)) (fun av s' ⟨k, _, e⟩ l hl => .inr fun p hp => e ▸ List.mem_cons_of_mem _ (List.mem_cons_of_mem _ (hlk l hl p hp))) ?_
    rintro _ _ ⟨a, rfl, rfl⟩
    rw [hdst, ← put_swap hne]
    refine .perm (List.Perm.swap _ _ _) (.reR (R' := j :: i :: R) (fun k => ?_) (h a b))
    simp only [List.mem_cons]
    constructor <;> rintro (h | h | h) <;> simp [h]

theorem aop_loadM (h : TTok P T) {o : Oper} {ty : Nat} {x : Operand} {id off e sz fz : Nat} {cs : List AV} {av : AV} (hm : (id, Ob.row e sz cs fz) ∈ s) (ho : o.op = .load ty x) (hx : ev t x = .ref id off)
    (hl : (match T.lay ty with | some (true, n) => if Nat.ble (off + n) cs.length then some (AV.agg ((cs.drop off).take n)) else none | some (false, _) => cs[off]? | none => none) = some av) :
    AOp P o t s (fun v z => v = av ∧ z = s) := by
  obtain ⟨j, hj⟩ := List.getElem?_of_mem hm
  exact aop_loadRef h ho hx hj hl
theorem aop_rowLoadM {α : Type} (h : TTok P T) {o : Oper} {ty : Nat} {x : Operand} {id e fz : Nat} {g : α → AV} {l : List α} {k : Int} {v : α} (hm : (id, Ob.row e 1 (l.map g) fz) ∈ s) (hv : getI l k = some v) (ho : o.op = .load ty x) (hl : T.lay ty = some (false, 1)) (hx : ev t x = .ref id k.toNat) :
    AOp P o t s (fun z s' => z = g v ∧ s' = s) := by
  obtain ⟨j, hj⟩ := List.getElem?_of_mem hm
  exact aop_rowLoad1 h hv ho hl hx hj

/-- A node that is made, immutable from then on. -/
theorem aop_boxNode {o : Oper} {e : Nat} {x : Operand} {k n : Int} {nm mk : List UInt8} {c : AV} {ks : List Tr} {cs : List AV} (ho : o.op = .box e x) (hx : ev t x = .agg cs) (hcs : cs = [.i k, .i n, .s nm, .s mk, c]) (hc : Weak c (kidsAV ks)) :
    AOp P o t s (fun z s' => z = .tree (.node k n nm mk ks) ∧ s' = s) := by
  subst hcs
  have h1 : AOp P o t s (fun z s' => z = .ptr [.i k, .i n, .s nm, .s mk, c] ∧ s' = s) := by
    obtain ⟨dst, op, type, pos, after, guard⟩ := o
    simp only at ho
    subst ho
    refine aop_gen fun a w m i hr hop => ?_
    have v1 := opd (x := x) hop (by simp [Op.operands])
    rw [hx] at v1
    obtain ⟨hl, hl1⟩ := v1.cells (.inr ⟨_, rfl⟩)
    obtain ⟨r1, r2⟩ := hr.make e (a.eval x).cells.toList w.drawn hl1
    refine ⟨.pointer (some ⟨w.heap.size, 0, none⟩), _, _, i, ?_, ⟨_, _, rfl, hr.made hl⟩, r1, r2⟩
    simp [execOp, Instr.box, newVar, newRow]
    rfl
  exact h1.view fun m i v hv => Weak.node_tree k n nm mk ks _ _ _ (Weak.ptr (WL.same (WL.same (WL.same (WL.same (WL.cons hc WL.nil))))) _ _ _ hv)

theorem Weak.slc {xs ys : List AV} {n : Nat} {f : Bool} (h : WL xs ys) : Weak (.slc xs n f) (.slc ys n f) := by
  intro m i v hv
  rcases hv with ⟨h1, h2, h3⟩ | ⟨b, o, cap, h1, h2, h3, h4, h5⟩
  · subst h2; cases h; exact .inl ⟨h1, rfl, h3⟩
  · exact .inr ⟨b, o, cap, h1, h2, h3, h4, h.vc h5⟩

/-- A cell that holds nothing yet holds a row that will grow. -/
theorem aw_adoptCell {c : Code} {Q : APost} {j id e0 sz0 : Nat} {cs : List AV} {fz : Nat} (k e sz : Nat) (hj : s[j]? = some (id, .row e0 sz0 cs fz)) (hx : cs[k]? = some (.lit (.slice none 0 0)))
    (h : ∀ r, AWp P n c Q t ((r, .row e sz [] 0) :: s.set j (id, .row e0 sz0 (cs.set k (.row r 0)) fz))) : AWp P n c Q t s := by
  intro a w m i h1 h2 h3 h4
  obtain ⟨r, i', g1, g2, g3, g4⟩ := h1.adopt e sz
  have hj' : ((r, Ob.row e sz [] 0) :: s)[j + 1]? = some (id, .row e0 sz0 cs fz) := by simpa using hj
  have hview : ∀ (m' : Mu) (v : Value), VR m' i' (.lit (.slice none 0 0)) v → VR m' i' (.row r 0) v := fun _ v hv => .inl ⟨g2, rfl, hv⟩
  -- the cell is told otherwise
  have hjlt : j < s.length := (List.getElem?_eq_some_iff.1 hj).1
  have hjv : s[j] = (id, .row e0 sz0 cs fz) := (List.getElem?_eq_some_iff.1 hj).2
  have hids : ∀ p ∈ (r, Ob.row e sz [] 0) :: s.set j (id, .row e0 sz0 (cs.set k (.row r 0)) fz), ∃ q ∈ (r, Ob.row e sz [] 0) :: s, q.1 = p.1 := by
    intro p hp
    rcases List.mem_cons.1 hp with rfl | hp
    · exact ⟨_, List.mem_cons_self, rfl⟩
    · obtain ⟨l, hl⟩ := List.getElem?_of_mem hp
      rw [List.getElem?_set] at hl
      split at hl
      · cases hl; exact ⟨_, List.mem_cons_of_mem _ (List.mem_of_getElem? hj), rfl⟩
      · exact ⟨p, List.mem_cons_of_mem _ (List.mem_of_getElem? hl), rfl⟩
  have hrel : Rel w m i' ((r, Ob.row e sz [] 0) :: s.set j (id, .row e0 sz0 (cs.set k (.row r 0)) fz)) := by
    refine ⟨g3.mu, fun p hp => ?_, ?_, g3.fin⟩
    · rcases List.mem_cons.1 hp with rfl | hp
      · exact g3.obj _ List.mem_cons_self
      · obtain ⟨l, hl⟩ := List.getElem?_of_mem hp
        rw [List.getElem?_set] at hl
        split at hl
        · cases hl
          rcases g3.obj _ (List.mem_of_getElem? hj') with ⟨q1, q2, q3⟩ | ⟨b, cap, vs, q1, q2, q3, q4, q5, q6, q7, q8, q9, q10⟩
          · subst q2; simp at hx
          · refine .inr ⟨b, cap, vs, q1, q2, q3, q4, by simpa using q5, by simpa using q6, by simpa using q7, ?_, q9, q10⟩
            simp only [List.length_set]
            refine VL.set_av k q8 fun v hv => ?_
            obtain ⟨u, p1, p2⟩ := q8.get k _ hx
            rw [hv] at p1
            cases p1
            exact hview m v p2
        · exact g3.obj p (List.mem_cons_of_mem _ (List.mem_of_getElem? hl))
    · have hmap : ((r, Ob.row e sz [] 0) :: s.set j (id, Ob.row e0 sz0 (cs.set k (.row r 0)) fz)).map (·.1) = ((r, Ob.row e sz [] 0) :: s).map (·.1) := by
        simp only [List.map_cons, List.cons.injEq, true_and]
        rw [List.map_set]
        exact List.ext_getElem? fun l => by
          rw [List.getElem?_set]
          split
          · rename_i e1; subst e1; simp [hjlt, hjv]
          · rfl
      have key : ∀ (l : Store), l.Pairwise (Go.Am.apart i') ↔ (l.map (·.1)).Pairwise (fun p q => p ≠ q ∧ ∀ b, blk i' p = some b → blk i' q ≠ some b) := by
        intro l; rw [List.pairwise_map]; rfl
      rw [key, hmap, ← key]
      exact g3.apart
  have hstep : Step w m i s w m i' ((r, Ob.row e sz [] 0) :: s.set j (id, .row e0 sz0 (cs.set k (.row r 0)) fz)) :=
    g4.trans ⟨rfl, rfl, rfl, Nat.le_refl _, Mu.le_refl _, Io.le_refl _, fun _ _ _ => rfl, fun _ _ _ _ => rfl, fun p hp => .inl (hids p hp), fun b ⟨p, hp, e'⟩ => .inl (let ⟨q, hq, e2⟩ := hids p hp; ⟨q, hq, e2 ▸ e'⟩)⟩
  exact wp_mono (h r a w m i' hrel (fun x => VR.mono (Mu.le_refl _) g4.io _ _ (h2 x)) h3 h4) fun e a' w' hc => Conc.after hstep hc

/-- A loop, by the rounds that are left; the store behind a round may lie in another order, and hold more. -/
theorem aw_loop_ind' {X : Type} {c : Code} {Q : APost} (F : Nat → X → Prop) (L : X → List (Nat × AV)) (S : X → Store) (h0 : ∀ x, ¬ F 0 x)
    (hs : ∀ k x, F (k + 1) x → AWp P n c (aThen (fun t s => ∃ k2 x' is g, k2 ≤ k ∧ F k2 x' ∧ ((L x').map (·.1)).map t = (L x').map (·.2) ∧ sel s is = S x' ++ g) Q) (tauOf (L x)) (S x)) (k : Nat) (x : X) (hx : F k x)
    (ht : ((L x).map (·.1)).map t = (L x).map (·.2)) (he : s = S x) : AWp P n (.loop c) Q t s := by
  subst he
  refine aw_trim (L x) ht (aw_loop k ?_)
  clear ht
  have key : ∀ N k x, k ≤ N → F k x → ARounds P n c Q N (tauOf (L x)) (S x) := by
    intro N
    induction N with
    | zero =>
      intro k x hk hx
      obtain rfl : k = 0 := by omega
      exact absurd hx (h0 x)
    | succ N ih =>
      intro k x hk hx
      cases k with
      | zero => exact absurd hx (h0 x)
      | succ k =>
        refine (hs k x hx).mono ?_
        intro e t' s' hq
        cases e with
        | normal =>
          obtain ⟨k2, x', is, g, q0, q1, q2, q3⟩ := hq
          have := ih k2 x' (by omega) q1
          cases N with
          | zero =>
            obtain rfl : k2 = 0 := by omega
            exact absurd q1 (h0 x')
          | succ N =>
            refine aw_trim (L x') q2 (aw_sel is q3 (aw_shift (Shift.drop ?_) this))
            exact List.sublist_append_left _ _
        | _ => exact hq
  exact key k k x (Nat.le_refl _) hx
end
end Go.Am
namespace Go.Am
open Go
theorem permTo {s : Store} (is : List Nat) {s' : Store} (h : sel s is = s') : s.Perm s' := h ▸ perm_sel s is
end Go.Am
