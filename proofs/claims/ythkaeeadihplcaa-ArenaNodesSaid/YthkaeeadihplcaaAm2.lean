/- The abstract machine, part 2: what is said of a call, of an operation, of a piece of code; the rules of code. -/
import Derived.Test.YthkaeeadihplcaaAm1
namespace Go.Am
open Go

abbrev Tau := Nat → AV
def Tau.put (t : Tau) (d : Option Nat) (v : AV) : Tau :=
  match d with
  | some d => fun k => if Nat.beq k d then v else t k
  | none => t
abbrev AV.ofConst (v : Value) : AV := .lit v
def ev (t : Tau) : Operand → AV
  | .tmp k => t k
  | .const v => AV.ofConst v
  | .func f => .fn (.func f) [] []
  | .global _ => .any

theorem nbeq_ne {k d : Nat} (h : k ≠ d) : Nat.beq k d = false := by
  cases hh : Nat.beq k d with
  | false => rfl
  | true => exact absurd (Nat.eq_of_beq_eq_true hh) h
theorem nbeq_self (k : Nat) : Nat.beq k k = true := Nat.beq_refl k

/-- The frame's slots are what the abstract ones say. -/
def TR (m : Mu) (i : Io) (t : Tau) (a : Act) : Prop := ∀ k, VR m i (t k) (a.tmps.getD k undef)

theorem VR.ofConst {m : Mu} {i : Io} (v : Value) : VR m i (AV.ofConst v) v := by
  rfl

theorem VR.ev {m : Mu} {i : Io} {t : Tau} {a : Act} (x : Operand) (h : ∀ k, x = .tmp k → VR m i (t k) (a.tmps.getD k undef)) : VR m i (ev t x) (a.eval x) := by
  cases x with
  | tmp k => exact h k rfl
  | const v => exact VR.ofConst v
  | global g => exact trivial
  | func f => exact ⟨[], [], rfl, rfl, rfl⟩

theorem TR.mono {m m' : Mu} {i i' : Io} (hm : m.le m') (hi : i.le i') {t : Tau} {a : Act} (h : TR m i t a) : TR m' i' t a := fun k => VR.mono hm hi _ _ (h k)

theorem TR.put {m : Mu} {i : Io} {t : Tau} {a : Act} {d : Option Nat} {v : AV} {x : Value} (h : TR m i t a) (hd : ∀ k, d = some k → k < a.tmps.size) (hv : VR m i v x) :
    TR m i (t.put d v) (a.put d x) := by
  intro k
  cases d with
  | none => exact h k
  | some d =>
    have hlt := hd d rfl
    simp only [Tau.put, Act.put]
    by_cases e : k = d
    · subst e
      rw [nbeq_self, if_pos rfl]
      rw [Array.getD_eq_getD_getElem?, Array.getElem?_setIfInBounds_self_of_lt hlt]
      exact hv
    · have := h k
      rw [nbeq_ne e, if_neg (by simp)]
      rw [show (a.tmps.setIfInBounds d x).getD k undef = a.tmps.getD k undef from by rw [Array.getD_eq_getD_getElem?, Array.getD_eq_getD_getElem?, Array.getElem?_setIfInBounds_ne (Ne.symm e)]]
      exact this

/-- A call of a Go function on a part of the store: it returns. -/
def ACalls (P : Program) (f : FuncId) (args : List AV) (s : Store) (Q : AV → Store → Prop) : Prop :=
  ∀ w m i (cargs : List Value), Rel w m i s → VL m i args cargs →
    Calls P f cargs.toArray w fun e w' => ∃ v av s' m' i', e = .returned v ∧ Q av s' ∧ VR m' i' av v ∧ Rel w' m' i' s' ∧ Step w m i s w' m' i' s'

/-- An operation. -/
def AOp (P : Program) (o : Oper) (t : Tau) (s : Store) (R : AV → Store → Prop) : Prop :=
  ∀ (a : Act) (w : World) (m : Mu) (i : Io), Rel w m i s → (∀ k, Operand.tmp k ∈ o.op.operands → VR m i (t k) (a.tmps.getD k undef)) →
    ∀ (K : Act → World → Prop) (Q : Exit → Act → World → Prop),
      (∀ v w' av s' m' i', R av s' → VR m' i' av v → Rel w' m' i' s' → Step w m i s w' m' i' s' → K (a.put o.dst v) w') → o.wp P a w K Q

abbrev APost := Exit → Tau → Store → Prop
def Conc (n : Nat) (w : World) (m : Mu) (i : Io) (s : Store) (Q : APost) : Exit → Act → World → Prop :=
  fun e a' w' => ∃ t' s' m' i', Q e t' s' ∧ TR m' i' t' a' ∧ a'.tmps.size = n ∧ a'.defers = [] ∧ Rel w' m' i' s' ∧ Step w m i s w' m' i' s'

def AWp (P : Program) (n : Nat) (c : Code) (Q : APost) (t : Tau) (s : Store) : Prop :=
  ∀ (a : Act) (w : World) (m : Mu) (i : Io), Rel w m i s → TR m i t a → a.tmps.size = n → a.defers = [] → c.wp P (Conc n w m i s Q) a w

theorem Conc.after {n w m i s w1 m1 i1 s1} {Q : APost} {e a' w'} (h : Step w m i s w1 m1 i1 s1) (k : Conc n w1 m1 i1 s1 Q e a' w') : Conc n w m i s Q e a' w' := by
  obtain ⟨t', s', m', i', h1, h2, h3, h4, h5, h6⟩ := k
  exact ⟨t', s', m', i', h1, h2, h3, h4, h5, h.trans h6⟩

section
variable {P : Program} {n : Nat} {t : Tau} {s : Store}

theorem AWp.mono {c : Code} {Q Q' : APost} (h : AWp P n c Q t s) (hq : ∀ e t s, Q e t s → Q' e t s) : AWp P n c Q' t s :=
  fun a w m i h1 h2 h3 h4 => wp_mono (h a w m i h1 h2 h3 h4) fun _ _ _ ⟨t', s', m', i', q, r⟩ => ⟨t', s', m', i', hq _ _ _ q, r⟩

def aThen (K : Tau → Store → Prop) (Q : APost) : APost
  | .normal, t, s => K t s
  | e, t, s => Q e t s

theorem aw_seq {x y : Code} {Q : APost} (h : AWp P n x (aThen (AWp P n y Q) Q) t s) : AWp P n (.seq x y) Q t s := by
  intro a w m i h1 h2 h3 h4
  refine wp_seq (wp_mono (h a w m i h1 h2 h3 h4) ?_)
  intro e a' w' ⟨t', s', m', i', q, r2, r3, r4, r5, r6⟩
  cases e with
  | normal => exact wp_mono (q a' w' m' i' r5 r2 r3 r4) fun e a'' w'' hc => Conc.after r6 hc
  | _ => exact ⟨t', s', m', i', q, r2, r3, r4, r5, r6⟩

def aBlock (id : Nat) (Q : APost) : APost
  | .exit k, t, s => if Nat.beq k id then Q .normal t s else Q (.exit k) t s
  | e, t, s => Q e t s

theorem aw_block {id : Nat} {x : Code} {Q : APost} (h : AWp P n x (aBlock id Q) t s) : AWp P n (.block id x) Q t s := by
  intro a w m i h1 h2 h3 h4
  refine wp_block (wp_mono (h a w m i h1 h2 h3 h4) ?_)
  intro e a' w' ⟨t', s', m', i', q, r⟩
  cases e with
  | exit k =>
    simp only [Exit.inBlock]
    by_cases hk : k = id
    · subst hk; rw [if_pos rfl]; exact ⟨t', s', m', i', by simpa [aBlock, nbeq_self] using q, r⟩
    · rw [if_neg hk]; exact ⟨t', s', m', i', by simpa [aBlock, nbeq_ne hk] using q, r⟩
  | _ => exact ⟨t', s', m', i', q, r⟩

theorem aw_now {c : Code} {Q : APost} {e : Exit} (hc : ∀ {Q : Exit → Act → World → Prop} {a w}, Q e a w → c.wp P Q a w) (h : Q e t s) : AWp P n c Q t s :=
  fun a w m i h1 h2 h3 h4 => hc ⟨t, s, m, i, h, h2, h3, h4, h1, Step.refl _ _ _ _⟩

theorem aw_exit {id : Nat} {Q : APost} (h : Q (.exit id) t s) : AWp P n (.exit id) Q t s := aw_now (fun h => wp_exit h) h
theorem aw_skip {Q : APost} (h : Q .normal t s) : AWp P n .skip Q t s := aw_now (fun h => wp_skip h) h
theorem aw_ret {Q : APost} (h : Q .ret t s) : AWp P n .ret Q t s := aw_now (fun h => wp_ret h) h

theorem aw_cond {c : Operand} {x y : Code} {Q : APost} (b : Bool) (hc : ev t c = .lit (.bool b)) (ht : b = true → AWp P n x Q t s) (hf : b = false → AWp P n y Q t s) :
    AWp P n (.cond c x y) Q t s := by
  intro a w m i h1 h2 h3 h4
  have hv := VR.ev (m := m) (i := i) (t := t) (a := a) c (fun k _ => h2 k)
  rw [hc] at hv
  refine wp_cond_split (t := b) hv (fun hb => ht hb a w m i h1 h2 h3 h4) (fun hb => hf hb a w m i h1 h2 h3 h4)

/-- A loop, round by round. -/
def ARounds (P : Program) (n : Nat) (c : Code) (Q : APost) : Nat → Tau → Store → Prop
  | 0, _, _ => False
  | k + 1, t, s => AWp P n c (aThen (ARounds P n c Q k) Q) t s

theorem aw_loop {c : Code} {Q : APost} (k : Nat) (h : ARounds P n c Q k t s) : AWp P n (.loop c) Q t s := by
  intro a w m i h1 h2 h3 h4
  refine wp_loop_rounds k ?_
  induction k generalizing t s a w m i with
  | zero => exact h.elim
  | succ k ih =>
    rw [rounds_succ]
    refine wp_mono (h a w m i h1 h2 h3 h4) ?_
    intro e a' w' ⟨t', s', m', i', q, r2, r3, r4, r5, r6⟩
    cases e with
    | normal =>
      have := ih q a' w' m' i' r5 r2 r3 r4
      have conv : ∀ (j : Nat) (a'' : Act) (w'' : World), Code.rounds P c (Conc n w' m' i' s' Q) j a'' w'' → Code.rounds P c (Conc n w m i s Q) j a'' w'' := by
        intro j
        induction j with
        | zero => exact fun _ _ h => h
        | succ j ihj =>
          intro a'' w'' hh
          rw [rounds_succ] at hh ⊢
          refine wp_mono hh ?_
          intro e a3 w3 h3
          cases e with
          | normal => exact ihj a3 w3 h3
          | _ => exact Conc.after r6 h3
      exact conv _ _ _ this
    | _ => exact ⟨t', s', m', i', q, r2, r3, r4, r5, r6⟩

/-- A change of view: the same world told otherwise. -/
def Shift (t : Tau) (s : Store) (t' : Tau) (s' : Store) : Prop :=
  ∀ w m i a, Rel w m i s → TR m i t a → ∃ m' i', Rel w m' i' s' ∧ TR m' i' t' a ∧ Step w m i s w m' i' s'

theorem aw_shift {c : Code} {Q : APost} {t' : Tau} {s' : Store} (h : Shift t s t' s') (k : AWp P n c Q t' s') : AWp P n c Q t s := by
  intro a w m i h1 h2 h3 h4
  obtain ⟨m', i', r1, r2, r3⟩ := h w m i a h1 h2
  exact wp_mono (k a w m' i' r1 r2 h3 h4) fun e a' w' hc => Conc.after r3 hc

theorem aw_perm {c : Code} {Q : APost} {s' : Store} (h : s.Perm s') (k : AWp P n c Q t s') : AWp P n c Q t s :=
  aw_shift (fun w m i a h1 h2 => ⟨m, i, h1.perm h, h2, (Step.refl w m i s).perm (List.Perm.refl _) h⟩) k

/-! ### regions -/
def AOps (P : Program) (n : Nat) (ops : Array Oper) (l : List Oper) (Q : Tau → Store → Prop) (t : Tau) (s : Store) : Prop :=
  ∀ (a : Act) (w : World) (m : Mu) (i : Io), Rel w m i s → TR m i t a → a.tmps.size = n → a.defers = [] →
    ∀ (w0 : World) (m0 : Mu) (i0 : Io) (s0 : Store) (Q' : APost), (∀ t s, Q t s → Q' .normal t s) → Step w0 m0 i0 s0 w m i s → wpList P ops (Conc n w0 m0 i0 s0 Q') l a w

theorem aw_region {id : Nat} {l : List Oper} {Q : APost} (h : AOps P n l.toArray l (Q .normal) t s) : AWp P n (.region id l.toArray false) Q t s := by
  intro a w m i h1 h2 h3 h4
  exact wp_region_lit (h a w m i h1 h2 h3 h4 w m i s Q (fun _ _ h => h) (Step.refl _ _ _ _))

theorem ao_nil {ops : Array Oper} {Q : Tau → Store → Prop} (h : Q t s) : AOps P n ops [] Q t s :=
  fun a w m i h1 h2 h3 h4 w0 m0 i0 s0 Q' hq hs => ⟨t, s, m, i, hq _ _ h, h2, h3, h4, h1, hs⟩

theorem size_put {a : Act} {d : Option Tmp} {v : Value} : (a.put d v).tmps.size = a.tmps.size := by cases d <;> simp [Act.put]
theorem defers_put {a : Act} {d : Option Tmp} {v : Value} : (a.put d v).defers = a.defers := by cases d <;> simp [Act.put]

def inB (d : Option Nat) (n : Nat) : Bool := match d with | some d => Nat.blt d n | none => true
theorem inB_lt {d : Option Nat} {n : Nat} (h : inB d n = true) : ∀ k, d = some k → k < n := by
  intro k hk; subst hk; simpa [inB] using h

theorem ao_cons {ops : Array Oper} {o : Oper} {rest : List Oper} {Q : Tau → Store → Prop} {R : AV → Store → Prop} (hg : o.guard = none) (hd : inB o.dst n = true) (h : AOp P o t s R)
    (k : ∀ av s', R av s' → AOps P n ops rest Q (t.put o.dst av) s') : AOps P n ops (o :: rest) Q t s := by
  intro a w m i h1 h2 h3 h4 w0 m0 i0 s0 Q' hq hs
  unfold wpList
  rw [if_pos (by simp [Region.wanted, hg])]
  refine .inl (h a w m i h1 (fun k _ => h2 k) _ _ ?_)
  intro v w' av s' m' i' hR hv hr hst
  exact k av s' hR _ w' m' i' hr ((h2.mono hst.mu hst.io).put (h3 ▸ inB_lt hd) hv) (size_put.trans h3) (defers_put.trans h4) w0 m0 i0 s0 Q' hq (hs.trans hst)

/-- one result -/
theorem ao_one {ops : Array Oper} {o : Oper} {rest : List Oper} {Q : Tau → Store → Prop} {av : AV} {s' : Store} (h : AOp P o t s (fun v x => v = av ∧ x = s')) (hg : o.guard = none) (hd : inB o.dst n = true)
    (k : AOps P n ops rest Q (t.put o.dst av) s') : AOps P n ops (o :: rest) Q t s :=
  ao_cons hg hd h (by rintro _ _ ⟨rfl, rfl⟩; exact k)

theorem ao_shift {ops : Array Oper} {l : List Oper} {Q : Tau → Store → Prop} {t' : Tau} {s' : Store} (h : Shift t s t' s') (k : AOps P n ops l Q t' s') : AOps P n ops l Q t s := by
  intro a w m i h1 h2 h3 h4 w0 m0 i0 s0 Q' hq hs
  obtain ⟨m', i', r1, r2, r3⟩ := h w m i a h1 h2
  exact k a w m' i' r1 r2 h3 h4 w0 m0 i0 s0 Q' hq (hs.trans r3)

/-! ### entering a function -/
def argsTau (args : List AV) : Tau := fun k => (args[k]?).getD .any

theorem VL.length {m : Mu} {i : Io} : ∀ {cs : List AV} {vs : List Value}, VL m i cs vs → vs.length = cs.length
  | [], _, h => by rw [h]; rfl
  | c :: cs, _, ⟨v, vs', h1, _, h3⟩ => by rw [h1]; simp [VL.length h3]

theorem VL.get {m : Mu} {i : Io} : ∀ {cs : List AV} {vs : List Value}, VL m i cs vs → ∀ (k : Nat) (c : AV), cs[k]? = some c → ∃ v, vs[k]? = some v ∧ VR m i c v
  | [], _, _, k, c, h => by simp at h
  | c0 :: cs, _, ⟨v, vs', h1, h2, h3⟩, k, c, h => by
    subst h1
    cases k with
    | zero => simp at h; subst h; exact ⟨v, rfl, h2⟩
    | succ k => simp at h; obtain ⟨u, h4, h5⟩ := VL.get h3 k c h; exact ⟨u, by simpa using h4, h5⟩

def resAV (fn : Func) (t : Tau) : Option AV :=
  match fn.results.toList with
  | [.tmp k] => some (t k)
  | [] => some (.tup [])
  | [.tmp k, .tmp j] => some (.tup [t k, t j])
  | [.tmp k, .tmp j, .tmp l] => some (.tup [t k, t j, t l])
  | [.tmp k, .tmp j, .tmp l, .tmp l2] => some (.tup [t k, t j, t l, t l2])
  | _ => none

/-- One value told by another one, less. -/
def Weak (x y : AV) : Prop := ∀ m i v, VR m i x v → VR m i y v
theorem Weak.refl (x : AV) : Weak x x := fun _ _ _ h => h

/-- What is sealed may be told as immutable. -/
def View (s : Store) (x y : AV) : Prop := ∀ w m i v, Rel w m i s → VR m i x v → VR m i y v
theorem View.of_weak {x y : AV} (h : Weak x y) : View s x y := fun _ _ _ _ _ hv => h _ _ _ hv
theorem View.refl (x : AV) : View s x x := fun _ _ _ _ _ h => h
theorem View.trans {x y z : AV} (h : View s x y) (k : View s y z) : View s x z := fun w m i v hr hv => k w m i v hr (h w m i v hr hv)

/-- What a function hands back from here: the value x. -/
def ResOk (P : Program) (fn : Func) (t : Tau) (s : Store) (x : AV) : Prop :=
  ∀ w m i (a : Act), Rel w m i s → TR m i t a → ∃ v, (results fn a.tmps).run P w = .ok v w ∧ VR m i x v

def aBody (P : Program) (fn : Func) (Q : AV → Store → Prop) : APost
  | .normal, t, s | .ret, t, s => ∃ x av s', ResOk P fn t s x ∧ View s x av ∧ (∃ s1 : Store, s.Perm s1 ∧ s'.Sublist s1) ∧ Q av s'
  | _, _, _ => False

theorem resAV_run {fn : Func} {t : Tau} {x : AV} (h : resAV fn t = some x) {m : Mu} {i : Io} {a : Act} (ht : TR m i t a) (w : World) :
    ∃ v, (results fn a.tmps).run P w = .ok v w ∧ VR m i x v := by
  unfold resAV at h
  split at h
  · rename_i k hl
    have hr : fn.results = #[.tmp k] := by rw [← Array.toArray_toList (xs := fn.results), hl]
    cases h
    exact ⟨_, results_tmp hr _ _ _, ht k⟩
  · rename_i hl
    have hr : fn.results = #[] := by rw [← Array.toArray_toList (xs := fn.results), hl]
    cases h
    exact ⟨_, results_none hr _ _ _, [], rfl, rfl⟩
  · rename_i k j hl
    have hr : fn.results = #[.tmp k, .tmp j] := by rw [← Array.toArray_toList (xs := fn.results), hl]
    cases h
    exact ⟨_, results_tmp2 hr _ _ _, [_, _], rfl, _, _, rfl, ht k, _, _, rfl, ht j, rfl⟩
  · rename_i k j l hl
    have hr : fn.results = #[.tmp k, .tmp j, .tmp l] := by rw [← Array.toArray_toList (xs := fn.results), hl]
    cases h
    refine ⟨.tuple #[a.tmps.getD k undef, a.tmps.getD j undef, a.tmps.getD l undef], by simp [results, hr], [_, _, _], rfl, _, _, rfl, ht k, _, _, rfl, ht j, _, _, rfl, ht l, rfl⟩
  · rename_i k j l l2 hl
    have hr : fn.results = #[.tmp k, .tmp j, .tmp l, .tmp l2] := by rw [← Array.toArray_toList (xs := fn.results), hl]
    cases h
    refine ⟨.tuple #[a.tmps.getD k undef, a.tmps.getD j undef, a.tmps.getD l undef, a.tmps.getD l2 undef], by simp [results, hr], [_, _, _, _], rfl, _, _, rfl, ht k, _, _, rfl, ht j, _, _, rfl, ht l, _, _, rfl, ht l2, rfl⟩
  · cases h

theorem res_tmps {fn : Func} {t : Tau} {s : Store} {x : AV} (h : resAV fn t = some x) : ResOk P fn t s x := fun w _ _ _ _ ht => resAV_run h ht w

def resSem (tmps : Array Value) (r : ResultVar) : Sem Value :=
  match r with
  | .tmp t => pure (tmps.getD t undef)
  | .cell a t => do loadVar t (← asAddr (tmps.getD a undef))

theorem results_eq (fn : Func) (tmps : Array Value) : results fn tmps = (do
    let vs ← fn.results.mapM (resSem tmps)
    pure (if h : vs.size = 1 then vs[0] else .tuple vs)) := rfl

def ResOk1 (P : Program) (t : Tau) (s : Store) (r : ResultVar) (x : AV) : Prop :=
  ∀ w m i (a : Act), Rel w m i s → TR m i t a → ∃ v, (resSem a.tmps r).run P w = .ok v w ∧ VR m i x v

theorem res1_tmp {t : Tau} {s : Store} {k : Nat} {x : AV} (h : t k = x) : ResOk1 P t s (.tmp k) x := fun w m i a _ ht => ⟨_, rfl, h ▸ ht k⟩

theorem res_one {fn : Func} {t : Tau} {s : Store} {r : ResultVar} {x : AV} (hf : fn.results = #[r]) (h : ResOk1 P t s r x) : ResOk P fn t s x := by
  intro w m i a hr ht
  obtain ⟨v, h1, h2⟩ := h w m i a hr ht
  refine ⟨v, ?_, h2⟩
  rw [results_eq, hf]
  simp [h1]

theorem res_two {fn : Func} {t : Tau} {s : Store} {r r2 : ResultVar} {x x2 : AV} (hf : fn.results = #[r, r2]) (h : ResOk1 P t s r x) (k : ResOk1 P t s r2 x2) : ResOk P fn t s (.tup [x, x2]) := by
  intro w m i a hr ht
  obtain ⟨v, h1, h2⟩ := h w m i a hr ht
  obtain ⟨u, k1, k2⟩ := k w m i a hr ht
  refine ⟨.tuple #[v, u], ?_, [v, u], rfl, _, _, rfl, h2, _, _, rfl, k2, rfl⟩
  rw [results_eq, hf]
  simp [h1, k1]

theorem res_three {fn : Func} {t : Tau} {s : Store} {r r2 r3 : ResultVar} {x x2 x3 : AV} (hf : fn.results = #[r, r2, r3]) (h : ResOk1 P t s r x) (k : ResOk1 P t s r2 x2) (l : ResOk1 P t s r3 x3) : ResOk P fn t s (.tup [x, x2, x3]) := by
  intro w m i a hr ht
  obtain ⟨v, h1, h2⟩ := h w m i a hr ht
  obtain ⟨u, k1, k2⟩ := k w m i a hr ht
  obtain ⟨z, l1, l2⟩ := l w m i a hr ht
  refine ⟨.tuple #[v, u, z], ?_, [v, u, z], rfl, _, _, rfl, h2, _, _, rfl, k2, _, _, rfl, l2, rfl⟩
  rw [results_eq, hf]
  simp [h1, k1, l1]

theorem acalls_enter {f : FuncId} {fn : Func} {c : Code} {args : List AV} {Q : AV → Store → Prop} (hf : P.funcs[f]? = some fn) (hb : fn.body = some c) (hn : Nat.ble args.length fn.ntmps = true)
    (h : AWp P fn.ntmps c (aBody P fn Q) (argsTau args) s) : ACalls P f args s Q := by
  intro w m i cargs h1 h2
  have hlen := VL.length h2
  have hn' : args.length ≤ fn.ntmps := by simpa using hn
  refine calls_of_wp hf hb (wp_mono (h _ w m i h1 ?_ ?_ rfl) ?_)
  · intro k
    simp only [argsTau]
    cases hk : args[k]? with
    | none => exact trivial
    | some c =>
      obtain ⟨v, h3, h4⟩ := VL.get h2 k c hk
      have hlt : k < cargs.length := (List.getElem?_eq_some_iff.1 h3).1
      have : (cargs.toArray ++ Array.replicate (fn.ntmps - cargs.toArray.size) undef).getD k undef = v := by
        rw [Array.getD_eq_getD_getElem?, Array.getElem?_append_left (by simpa using hlt)]
        simp [h3]
      rw [this]; exact h4
  · simp; omega
  · intro e a' w' ⟨t', s', m', i', q, r2, r3, r4, r5, r6⟩
    cases e with
    | normal =>
      obtain ⟨x, av, s2, q1, q2, ⟨s1, q5, q3⟩, q4⟩ := q
      obtain ⟨v, hv, hx⟩ := q1 w' m' i' a' r5 r2
      exact ⟨r4, v, hv, v, av, s2, m', i', rfl, q4, q2 _ _ _ _ r5 hx, (r5.perm q5).sub q3, (r6.perm (List.Perm.refl _) q5).forget fun p hp => q3.subset hp⟩
    | ret =>
      obtain ⟨x, av, s2, q1, q2, ⟨s1, q5, q3⟩, q4⟩ := q
      obtain ⟨v, hv, hx⟩ := q1 w' m' i' a' r5 r2
      exact ⟨r4, v, hv, v, av, s2, m', i', rfl, q4, q2 _ _ _ _ r5 hx, (r5.perm q5).sub q3, (r6.perm (List.Perm.refl _) q5).forget fun p hp => q3.subset hp⟩
    | _ => exact q.elim

theorem ACalls.mono {f : FuncId} {args : List AV} {Q Q' : AV → Store → Prop} (h : ACalls P f args s Q) (hq : ∀ av s, Q av s → Q' av s) : ACalls P f args s Q' :=
  fun w m i cargs h1 h2 => (h w m i cargs h1 h2).mono fun _ _ ⟨v, av, s', m', i', he, q, r⟩ => ⟨v, av, s', m', i', he, hq _ _ q, r⟩

/-- The frame rule for a call. -/
theorem ACalls.frame {f : FuncId} {args : List AV} {Q : AV → Store → Prop} (h : ACalls P f args s Q) {s0 r : Store} (hp : s0.Perm (s ++ r)) :
    ACalls P f args s0 (fun av s' => ∃ s1, Q av s1 ∧ s' = s1 ++ r) := by
  intro w m i cargs h1 h2
  have h1' := h1.perm hp
  refine (h w m i cargs (h1'.sub (List.sublist_append_left _ _)) h2).mono ?_
  intro e w' ⟨v, av, s', m', i', he, q, hv, hr, hs⟩
  obtain ⟨f1, f2⟩ := h1'.frame hs hr
  exact ⟨v, av, s' ++ r, m', i', he, ⟨s', q, rfl⟩, hv, f1, f2.perm hp.symm (List.Perm.refl _)⟩

theorem ACalls.weak {f : FuncId} {args args' : List AV} {Q : AV → Store → Prop} (h : ACalls P f args' s Q) (hw : ∀ m i vs, VL m i args vs → VL m i args' vs) : ACalls P f args s Q :=
  fun w m i cargs h1 h2 => h w m i cargs h1 (hw m i cargs h2)
end
end Go.Am
