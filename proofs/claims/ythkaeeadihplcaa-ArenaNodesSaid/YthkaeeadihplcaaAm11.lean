/- The abstract machine, part 11: regions that draw their order. What only looks may be settled ahead, whenever it is carried out; what turns the store comes in one order. -/
import Derived.Test.YthkaeeadihplcaaAm10
namespace Go.Am
open Go

def memb (k : Nat) : List Nat → Bool
  | [] => false
  | x :: l => if Nat.beq k x then true else memb k l
theorem memb_iff {k : Nat} : ∀ {l : List Nat}, memb k l = true ↔ k ∈ l
  | [] => by simp [memb]
  | x :: l => by
    unfold memb
    by_cases e : k = x
    · subst e; simp [nbeq_self]
    · rw [nbeq_ne e]; simp [memb_iff (l := l), e]

def dstOf (ops : Array Oper) (k : Nat) : Option Nat := (ops[k]?).bind (·.dst)
def predsOf (ops : Array Oper) (k : Nat) : List Nat := match ops[k]? with
  | some o => (o.after.toList.filter (Region.binds .any)).map (·.on)
  | none => []
def readsOf (ops : Array Oper) (k : Nat) : List Nat := match ops[k]? with
  | some o => o.looksAt ops
  | none => []

def oeq (d : Nat) : Option Nat → Bool
  | some e => Nat.beq d e
  | none => false

def allB (n : Nat) (p : Nat → Bool) : Bool := (List.range n).all p

/-- the slot of op i belongs to it alone -/
def uniq (ops : Array Oper) (i : Nat) : Bool :=
  match dstOf ops i with
  | none => true
  | some d => !(memb d (readsOf ops i)) && allB ops.size fun k => Nat.beq k i || (!(oeq d (dstOf ops k)) && (!(memb d (readsOf ops k)) || memb i (predsOf ops k)))

def ahead (ops : Array Oper) (R : List Nat) (i : Nat) : Bool :=
  Nat.blt i ops.size && !(memb i R) && (predsOf ops i).all fun k => memb k R

def lightOk (ops : Array Oper) (R : List Nat) (i : Nat) : Bool := ahead ops R i && uniq ops i

def slotOk (ops : Array Oper) (R : List Nat) (i : Nat) : Bool :=
  match dstOf ops i with
   | none => true
   | some d => allB ops.size fun k => Nat.beq k i || !(memb k R) || !(memb d (readsOf ops k) || oeq d (dstOf ops k)) || memb k (predsOf ops i)

def heavyOk (ops : Array Oper) (R : List Nat) (i : Nat) : Bool :=
  ahead ops R i &&
  (allB ops.size fun k => memb k R || Nat.beq k i || (predsOf ops k).any fun e => !(memb e R)) &&
  slotOk ops R i

def twoOk (ops : Array Oper) (R : List Nat) (i j : Nat) : Bool :=
  (ahead ops R i && ahead ops R j) &&
  (allB ops.size fun k => memb k R || Nat.beq k i || Nat.beq k j || (predsOf ops k).any fun e => !(memb e R)) &&
  (slotOk ops R i && slotOk ops R j)

/-- edges lead back -/
def backB (ops : Array Oper) : Bool := allB ops.size fun k => (predsOf ops k).all fun e => Nat.blt e k

section
variable {P : Program} {n : Nat}

def LightSem (P : Program) (ops : Array Oper) (o : Oper) (t : Tau) (av : AV) (rd : Store) : Prop :=
  (gd ops t o = some false ∧ av = .lit undef) ∨ (gd ops t o = some true ∧ ∀ s, (∀ p ∈ rd, p ∈ s) → AOp P o t s (fun x y => x = av ∧ y = s))

inductive J (P : Program) (n : Nat) (ops : Array Oper) (Q : Tau → Store → Prop) : List Nat → List (Nat × Store) → Tau → Store → Prop
  | done {R locks t s} (hR : allB ops.size (fun k => memb k R) = true) (h : Q t s) : J P n ops Q R locks t s
  | light {R locks t s} (i : Nat) (o : Oper) (av : AV) (rd : Store) (ho : ops[i]? = some o) (hk : lightOk ops R i = true) (hd : inB o.dst n = true) (hl : LightSem P ops o t av rd) (hrd : ∀ p ∈ rd, p ∈ s)
      (h : J P n ops Q (i :: R) ((i, rd) :: locks) (t.put o.dst av) s) : J P n ops Q R locks t s
  | heavy {R locks t s} (i : Nat) (o : Oper) (Rr : AV → Store → Prop) (ho : ops[i]? = some o) (hk : heavyOk ops R i = true) (hd : inB o.dst n = true) (hg : gd ops t o = some true) (hop : AOp P o t s Rr)
      (hlk : ∀ av s', Rr av s' → ∀ l ∈ locks, memb l.1 (predsOf ops i) = true ∨ ∀ p ∈ l.2, p ∈ s')
      (h : ∀ av s', Rr av s' → J P n ops Q (i :: R) locks (t.put o.dst av) s') : J P n ops Q R locks t s
  | two {R locks t s} (i : Nat) (o : Oper) (Rr : AV → Store → Prop) (j : Nat) (o2 : Oper) (Rr2 : AV → Store → Prop) (ho : ops[i]? = some o) (ho2 : ops[j]? = some o2) (hk : twoOk ops R i j = true)
      (hd : inB o.dst n = true) (hg : gd ops t o = some true) (hop : AOp P o t s Rr)
      (hlk : ∀ av s', Rr av s' → ∀ l ∈ locks, memb l.1 (predsOf ops i) = true ∨ ∀ p ∈ l.2, p ∈ s')
      (h : ∀ av s', Rr av s' → J P n ops Q (i :: R) locks (t.put o.dst av) s')
      (hd2 : inB o2.dst n = true) (hg2 : gd ops t o2 = some true) (hop2 : AOp P o2 t s Rr2)
      (hlk2 : ∀ av s', Rr2 av s' → ∀ l ∈ locks, memb l.1 (predsOf ops j) = true ∨ ∀ p ∈ l.2, p ∈ s')
      (h2 : ∀ av s', Rr2 av s' → J P n ops Q (j :: R) locks (t.put o2.dst av) s') : J P n ops Q R locks t s
  | perm {R locks t s s'} (hp : s.Perm s') (h : J P n ops Q R locks t s') : J P n ops Q R locks t s
  | reR {R R' locks t s} (hm : ∀ k, k ∈ R ↔ k ∈ R') (h : J P n ops Q R' locks t s) : J P n ops Q R locks t s

theorem allB_spec {k : Nat} {p : Nat → Bool} (h : allB k p = true) {j : Nat} (hj : j < k) : p j = true := by
  unfold allB at h
  exact List.all_eq_true.1 h j (List.mem_range.2 hj)

structure Good (P : Program) (n : Nat) (ops : Array Oper) (w0 : World) (m0 : Mu) (i0 : Io) (s0 : Store) (R : List Nat) (locks : List (Nat × Store)) (t : Tau) (s : Store) (listed : Array Bool) (a : Act) (w : World) (m : Mu) (i : Io) (fuel : Nat) : Prop where
  rel : Rel w m i s
  size : listed.size = ops.size
  exec : ∀ k, listed.getD k false = true → k ∈ R
  tr : ∀ x, (∃ k ∈ R, listed.getD k false = false ∧ dstOf ops k = some x) ∨ VR m i (t x) (a.tmps.getD x undef)
  pend : ∀ k ∈ R, listed.getD k false = false → ∃ o av rd, ops[k]? = some o ∧ LightSem P ops o t av rd ∧ (∀ d, o.dst = some d → t d = av) ∧ (k, rd) ∈ locks ∧ (∀ p ∈ rd, p ∈ s) ∧ uniq ops k = true ∧ inB o.dst n = true ∧ ∀ e ∈ predsOf ops k, e ∈ R
  count : ((List.range ops.size).filter fun k => !listed.getD k false).length ≤ fuel
  asz : a.tmps.size = n
  adef : a.defers = []
  step : Step w0 m0 i0 s0 w m i s

theorem uniq_spec {ops : Array Oper} {i d : Nat} (h : uniq ops i = true) (hd : dstOf ops i = some d) {k : Nat} (hk : k < ops.size) (hne : k ≠ i) : dstOf ops k ≠ some d ∧ (d ∈ readsOf ops k → i ∈ predsOf ops k) := by
  unfold uniq at h
  rw [hd] at h
  simp only [Bool.and_eq_true] at h
  have := allB_spec h.2 hk
  simp only [nbeq_ne hne, Bool.false_or, Bool.and_eq_true, Bool.or_eq_true, Bool.not_eq_true'] at this
  refine ⟨fun e => ?_, fun hr => ?_⟩
  · rw [e] at this; simp [oeq, nbeq_self] at this
  · rcases this.2 with h1 | h1
    · rw [memb_iff.2 hr] at h1; cases h1
    · exact memb_iff.1 h1

theorem uniq_self {ops : Array Oper} {i d : Nat} (h : uniq ops i = true) (hd : dstOf ops i = some d) : d ∉ readsOf ops i := by
  unfold uniq at h
  rw [hd] at h
  simp only [Bool.and_eq_true, Bool.not_eq_true'] at h
  intro hm
  rw [memb_iff.2 hm] at h
  cases h.1

theorem mem_readyJ {ops : Array Oper} {listed : Array Bool} {j : Nat} (h : j ∈ Region.ready .any ops listed) (hsz : listed.size = ops.size) :
    j < ops.size ∧ listed.getD j false = false ∧ ∀ e ∈ predsOf ops j, listed.getD e false = true := by
  obtain ⟨h1, o, ho, h2⟩ := mem_ready.1 h
  have hj : j < ops.size := (Array.getElem?_eq_some_iff.1 ho).1
  refine ⟨hj, ?_, ?_⟩
  · have hlt : j < listed.size := by omega
    rw [Array.getD_eq_getD_getElem?, Array.getElem?_eq_getElem hlt] at h1 ⊢
    simpa using h1
  · intro e he
    simp only [predsOf, ho, List.mem_map, List.mem_filter] at he
    obtain ⟨x, ⟨hx, hb⟩, rfl⟩ := he
    exact h2 x (by simpa using hx) hb

theorem ready_none {ops : Array Oper} {listed : Array Bool} (hb : backB ops = true) (hsz : listed.size = ops.size) (h : Region.ready .any ops listed = []) : ∀ k, k < ops.size → listed.getD k false = true := by
  intro k
  induction k using Nat.strongRecOn with
  | _ k ih =>
    intro hk
    cases hl : listed.getD k false with
    | true => rfl
    | false =>
      exfalso
      have hmem : k ∈ Region.ready .any ops listed := by
        refine mem_ready.2 ⟨?_, ops[k], Array.getElem?_eq_getElem hk, fun e he hbd => ?_⟩
        · have hlt : k < listed.size := by omega
          rw [Array.getD_eq_getD_getElem?, Array.getElem?_eq_getElem hlt] at hl ⊢
          simpa using hl
        · have hp : e.on ∈ predsOf ops k := by
            simp only [predsOf, Array.getElem?_eq_getElem hk, List.mem_map, List.mem_filter]
            exact ⟨e, ⟨by simpa using he, hbd⟩, rfl⟩
          have hlt := List.all_eq_true.1 (allB_spec hb hk) _ hp
          have hlt' : e.on < k := by simpa using hlt
          exact ih e.on hlt' (by omega)
      rw [h] at hmem
      cases hmem

theorem count_set {k0 : Nat} {listed : Array Bool} {N : Nat} (hk : k0 < N) (hsz : listed.size = N) (hl : listed.getD k0 false = false) :
    ((List.range N).filter fun k => !(listed.setIfInBounds k0 true).getD k false).length + 1 ≤ ((List.range N).filter fun k => !listed.getD k false).length := by
  have hget : ∀ k, (listed.setIfInBounds k0 true).getD k false = if k = k0 then true else listed.getD k false := by
    intro k
    by_cases e : k = k0
    · subst e
      rw [if_pos rfl, Array.getD_eq_getD_getElem?, Array.getElem?_setIfInBounds_self_of_lt (by omega)]
      rfl
    · rw [if_neg e]; exact getD_set_ne false (Ne.symm e)
  simp only [hget]
  rw [← List.countP_eq_length_filter, ← List.countP_eq_length_filter]
  have gen : ∀ (l : List Nat), l.Nodup → k0 ∈ l → (l.countP fun k => !(if k = k0 then true else listed.getD k false)) + 1 ≤ l.countP fun k => !listed.getD k false := by
    intro l
    induction l with
    | nil => intro _ h; cases h
    | cons x l ih =>
      intro hnd hm
      rw [List.nodup_cons] at hnd
      by_cases e : x = k0
      · subst e
        have hsame : (l.countP fun k => !(if k = x then true else listed.getD k false)) = l.countP fun k => !listed.getD k false := by
          apply List.countP_congr
          intro y hy
          have : y ≠ x := fun e => hnd.1 (e ▸ hy)
          simp [this]
        simp only [List.countP_cons, hsame, hl]
        simp
      · have hm' : k0 ∈ l := by
          rcases List.mem_cons.1 hm with h | h
          · exact absurd h.symm e
          · exact h
        have := ih hnd.2 hm'
        simp only [List.countP_cons, if_neg e]
        omega
  exact gen _ List.nodup_range (List.mem_range.2 hk)

theorem gd_wanted' {ops : Array Oper} {o : Oper} {b : Bool} {t : Tau} (hg : gd ops t o = some b) {m : Mu} {i : Io} {a : Act} (ht : ∀ x, x ∈ o.looksAt ops → VR m i (t x) (a.tmps.getD x undef)) : Region.wanted o (yielded ops a.tmps) = b := by
  unfold gd at hg
  unfold Region.wanted
  split at hg
  · rename_i h; rw [h]; cases hg; rfl
  · rename_i j want h
    rw [h]
    split at hg
    · cases hg
    · rename_i d hd
      split at hg
      · rename_i c hc
        have hgc : b = (c == want) := by cases hg; rfl
        subst hgc
        have h1 := ht d (by simp [Oper.looksAt, h, hd])
        rw [hc] at h1
        have h2 : a.tmps.getD d undef = .bool c := h1
        have h3 : a.tmps[d]? = some (.bool c) := by
          rw [Array.getD_eq_getD_getElem?] at h2
          cases he : a.tmps[d]? with
          | none => rw [he] at h2; simp [undef] at h2
          | some v => rw [he] at h2; simp at h2; rw [h2]
        simp only [yielded, hd, Option.bind_some, h3]
        cases c <;> cases want <;> rfl
      · rename_i c hc
        cases hg
        have h1 := ht d (by simp [Oper.looksAt, h, hd])
        rw [hc] at h1
        have h2 : a.tmps.getD d undef = .tuple c := h1
        have h3 : a.tmps[d]? = none ∨ a.tmps[d]? = some (.tuple c) := by
          rw [Array.getD_eq_getD_getElem?] at h2
          cases he : a.tmps[d]? with
          | none => exact .inl rfl
          | some v => rw [he] at h2; simp at h2; rw [h2]; exact .inr rfl
        simp only [yielded, hd, Option.bind_some]
        rcases h3 with h3 | h3 <;> rw [h3] <;> rfl
      · cases hg

theorem looksAt_tmp {ops : Array Oper} {o : Oper} {k : Nat} (h : Operand.tmp k ∈ o.op.operands) : k ∈ o.looksAt ops :=
  List.mem_append_left _ (List.mem_filterMap.2 ⟨.tmp k, by simpa using h, rfl⟩)

theorem put_getD {a : Act} {d : Option Tmp} {v : Value} {x : Nat} (h : d ≠ some x) : (a.put d v).tmps.getD x undef = a.tmps.getD x undef := by
  cases d with
  | none => rfl
  | some d =>
    have hne : d ≠ x := fun e => h (by rw [e])
    simp only [Act.put]
    rw [Array.getD_eq_getD_getElem?, Array.getD_eq_getD_getElem?, Array.getElem?_setIfInBounds_ne hne]

theorem put_self {a : Act} {d : Nat} {v : Value} (h : d < a.tmps.size) : (a.put (some d) v).tmps.getD d undef = v := by
  simp only [Act.put]
  rw [Array.getD_eq_getD_getElem?, Array.getElem?_setIfInBounds_self_of_lt h]
  rfl

theorem taup_ne {t : Tau} {d : Option Nat} {v : AV} {x : Nat} (h : d ≠ some x) : t.put d v x = t x := by
  cases d with
  | none => rfl
  | some d =>
    have hne : x ≠ d := fun e => h (by rw [e])
    simp only [Tau.put, nbeq_ne hne, Bool.false_eq_true, if_false]
theorem taup_self {t : Tau} {d : Nat} {v : AV} : t.put (some d) v d = v := by simp only [Tau.put, nbeq_self, if_true]

theorem AOp.congr {o : Oper} {t t' : Tau} {s : Store} {R : AV → Store → Prop} (h : AOp P o t s R) (he : ∀ k, Operand.tmp k ∈ o.op.operands → t' k = t k) : AOp P o t' s R :=
  fun a w m i h1 h2 => h a w m i h1 fun k hk => he k hk ▸ h2 k hk

theorem gd_congr {ops : Array Oper} {o : Oper} {t t' : Tau} (he : ∀ k, k ∈ o.looksAt ops → t' k = t k) : gd ops t' o = gd ops t o := by
  unfold gd
  cases hg : o.guard with
  | none => rfl
  | some p =>
    obtain ⟨j, want⟩ := p
    cases hd : (ops[j]?).bind (·.dst) with
    | none => simp only [hd]
    | some d => simp only [hd]; rw [he d (by simp [Oper.looksAt, hg, hd])]

theorem LightSem.congr {ops : Array Oper} {o : Oper} {t t' : Tau} {av : AV} {rd : Store} (h : LightSem P ops o t av rd) (he : ∀ k, k ∈ o.looksAt ops → t' k = t k) : LightSem P ops o t' av rd := by
  rcases h with ⟨h1, h2⟩ | ⟨h1, h2⟩
  · exact .inl ⟨(gd_congr he).trans h1, h2⟩
  · exact .inr ⟨(gd_congr he).trans h1, fun s hs => (h2 s hs).congr fun k hk => he k (looksAt_tmp hk)⟩

theorem dstOf_eq {ops : Array Oper} {k : Nat} {o : Oper} (h : ops[k]? = some o) : dstOf ops k = o.dst := by simp [dstOf, h]
theorem readsOf_eq {ops : Array Oper} {k : Nat} {o : Oper} (h : ops[k]? = some o) : readsOf ops k = o.looksAt ops := by simp [readsOf, h]

/-- One that was settled ahead is carried out. -/
theorem Good.pending {ops : Array Oper} {w0 m0 i0 s0 R locks t s listed a w m i fuel} (g : Good P n ops w0 m0 i0 s0 R locks t s listed a w m i (fuel + 1)) {k : Nat} (hk : k ∈ R) (hr : k ∈ Region.ready .any ops listed)
    {Q : Exit → Act → World → Prop} {K : Act → World → Prop} (hK : ∀ a' w' m' i', Good P n ops w0 m0 i0 s0 R locks t s (listed.setIfInBounds k true) a' w' m' i' fuel → K a' w') : wpOp P ops Q k K a w := by
  obtain ⟨hlt, hl, hpre⟩ := mem_readyJ hr g.size
  obtain ⟨o, av, rd, ho, hsem, hav, hlock, hrd, hun, hin, _⟩ := g.pend k hk hl
  -- its operands are there
  have hopd : ∀ x, x ∈ o.looksAt ops → VR m i (t x) (a.tmps.getD x undef) := by
    intro x hx
    rcases g.tr x with ⟨j, hj, hjl, hjd⟩ | h
    · exfalso
      by_cases e : j = k
      · subst e
        exact uniq_self hun hjd (by rw [readsOf_eq ho]; exact hx)
      · obtain ⟨o', av', rd', ho', _, _, _, _, hun', _, _⟩ := g.pend j hj hjl
        have := (uniq_spec hun' hjd hlt (Ne.symm e)).2 (by rw [readsOf_eq ho]; exact hx)
        have := hpre j this
        rw [hjl] at this; cases this
    · exact h
  have next : ∀ v w' m' i', VR m' i' av v → Rel w' m' i' s → Step w m i s w' m' i' s → Good P n ops w0 m0 i0 s0 R locks t s (listed.setIfInBounds k true) (a.put o.dst v) w' m' i' fuel := by
    intro v w' m' i' hv hrel hst
    have hget : ∀ j, (listed.setIfInBounds k true).getD j false = if j = k then true else listed.getD j false := by
      intro j
      by_cases e : j = k
      · subst e
        rw [if_pos rfl, Array.getD_eq_getD_getElem?, Array.getElem?_setIfInBounds_self_of_lt (by rw [g.size]; exact hlt)]
        rfl
      · rw [if_neg e]; exact getD_set_ne false (Ne.symm e)
    refine ⟨hrel, by simpa using g.size, fun j hj => ?_, fun x => ?_, fun j hj hjl => ?_, ?_, size_put.trans g.asz, defers_put.trans g.adef, g.step.trans hst⟩
    · rw [hget] at hj
      by_cases e : j = k
      · rw [e]; exact hk
      · rw [if_neg e] at hj; exact g.exec j hj
    · by_cases hdx : o.dst = some x
      · refine .inr ?_
        have hxlt : x < a.tmps.size := by rw [g.asz]; exact inB_lt hin x hdx
        rw [hdx, put_self hxlt, hav x hdx]
        exact hv
      · rw [put_getD hdx]
        rcases g.tr x with ⟨j, hj, hjl, hjd⟩ | h
        · refine .inl ⟨j, hj, ?_, hjd⟩
          rw [hget, if_neg]
          · exact hjl
          · intro e; subst e; rw [dstOf_eq ho] at hjd; exact hdx hjd
        · exact .inr (VR.mono hst.mu hst.io _ _ h)
    · rw [hget] at hjl
      by_cases e : j = k
      · rw [if_pos e] at hjl; cases hjl
      · rw [if_neg e] at hjl; exact g.pend j hj hjl
    · have := count_set hlt g.size hl
      have := g.count
      omega
  unfold wpOp
  simp only [ho]
  rcases hsem with ⟨h1, h2⟩ | ⟨h1, h2⟩
  · rw [if_neg (by rw [gd_wanted' h1 hopd]; simp)]
    exact hK _ _ _ _ (next undef w m i (h2 ▸ rfl) g.rel (Step.refl _ _ _ _))
  · rw [if_pos (gd_wanted' h1 hopd)]
    refine .inl (h2 s hrd a w m i g.rel (fun x hx => hopd x (looksAt_tmp hx)) _ _ ?_)
    rintro v w' av' s' m' i' ⟨q1, q2⟩ hv hrel hst
    rw [q1] at hv
    rw [q2] at hrel hst
    exact hK _ _ _ _ (next v w' m' i' hv hrel hst)

theorem Good.none_left {ops : Array Oper} {w0 m0 i0 s0 R locks t s listed a w m i fuel} (g : Good P n ops w0 m0 i0 s0 R locks t s listed a w m i fuel) (hb : backB ops = true) (hr : Region.ready .any ops listed = []) :
    (∀ k, k < ops.size → k ∈ R) ∧ TR m i t a := by
  have hall := ready_none hb g.size hr
  refine ⟨fun k hk => g.exec k (hall k hk), fun x => ?_⟩
  rcases g.tr x with ⟨k, hk, hl, hd⟩ | h
  · exfalso
    have hlt : k < ops.size := by
      unfold dstOf at hd
      cases ho : ops[k]? with
      | none => rw [ho] at hd; simp at hd
      | some o => exact (Array.getElem?_eq_some_iff.1 ho).1
    rw [hall k hlt] at hl; cases hl
  · exact h

theorem fuel_zero {ops : Array Oper} {listed : Array Bool} (hsz : listed.size = ops.size) (h : ((List.range ops.size).filter fun k => !listed.getD k false).length ≤ 0) : Region.ready .any ops listed = [] := by
  apply List.eq_nil_iff_forall_not_mem.2
  intro k hk
  obtain ⟨h1, h2, _⟩ := mem_readyJ hk hsz
  have : k ∈ (List.range ops.size).filter fun k => !listed.getD k false := by
    rw [List.mem_filter]
    exact ⟨List.mem_range.2 h1, by rw [h2]; rfl⟩
  have := List.length_pos_of_mem this
  omega

/-- One that turns the store is carried out. -/
theorem Good.turn {ops : Array Oper} {w0 m0 i0 s0 R locks t s listed a w m ι fuel} (g : Good P n ops w0 m0 i0 s0 R locks t s listed a w m ι (fuel + 1)) {k : Nat} {o : Oper} {Rr : AV → Store → Prop} (hk : k ∈ Region.ready .any ops listed) (hkR : k ∉ R)
    (ho : ops[k]? = some o) (hslot : slotOk ops R k = true) (hd : inB o.dst n = true) (hg : gd ops t o = some true) (hop : AOp P o t s Rr)
    (hlk : ∀ av s', Rr av s' → ∀ l ∈ locks, memb l.1 (predsOf ops k) = true ∨ ∀ p ∈ l.2, p ∈ s')
    {Q : Exit → Act → World → Prop} {K : Act → World → Prop} (hK : ∀ av s', Rr av s' → ∀ a' w' m' i', Good P n ops w0 m0 i0 s0 (k :: R) locks (t.put o.dst av) s' (listed.setIfInBounds k true) a' w' m' i' fuel → K a' w') : wpOp P ops Q k K a w := by
  obtain ⟨hklt, hkl, hkpre⟩ := mem_readyJ hk g.size
  unfold slotOk at hslot
  have hopd : ∀ x, x ∈ o.looksAt ops → VR m ι (t x) (a.tmps.getD x undef) := by
    intro x hx
    rcases g.tr x with ⟨j, hj, hjl, hjd⟩ | h
    · exfalso
      obtain ⟨o', av', rd', ho', _, _, _, _, hun', _, _⟩ := g.pend j hj hjl
      have hne : k ≠ j := fun e => hkR (e ▸ hj)
      have := (uniq_spec hun' hjd hklt hne).2 (by rw [readsOf_eq ho]; exact hx)
      have := hkpre j this
      rw [hjl] at this; cases this
    · exact h
  have hget : ∀ j, (listed.setIfInBounds k true).getD j false = if j = k then true else listed.getD j false := by
    intro j
    by_cases e : j = k
    · subst e
      rw [if_pos rfl, Array.getD_eq_getD_getElem?, Array.getElem?_setIfInBounds_self_of_lt (by rw [g.size]; exact hklt)]
      rfl
    · rw [if_neg e]; exact getD_set_ne false (Ne.symm e)
  unfold wpOp
  simp only [ho]
  rw [if_pos (gd_wanted' hg hopd)]
  refine .inl (hop a w m ι g.rel (fun x hx => hopd x (looksAt_tmp hx)) _ _ ?_)
  intro v w' av s' m' i' hR hv hrel hst
  have apartd : ∀ j ∈ R, listed.getD j false = false → j < ops.size → ∀ d, o.dst = some d → d ∉ readsOf ops j ∧ dstOf ops j ≠ some d := by
    intro j hj hjl hjlt d hdd
    rw [dstOf_eq ho, hdd] at hslot
    have := allB_spec hslot hjlt
    simp only [Bool.or_eq_true, Bool.not_eq_true', Bool.or_eq_false_iff] at this
    have no : ¬ memb j (predsOf ops k) = true := fun h => by
      have := hkpre j (memb_iff.1 h)
      rw [hjl] at this; cases this
    rcases this with ((h1 | h1) | h1) | h1
    · exact absurd (Nat.eq_of_beq_eq_true h1 ▸ hj) hkR
    · rw [memb_iff.2 hj] at h1; cases h1
    · refine ⟨fun hm => ?_, fun e => ?_⟩
      · rw [memb_iff.2 hm] at h1; cases h1.1
      · rw [e] at h1; simp [oeq, nbeq_self] at h1
    · exact absurd h1 no
  refine hK av s' hR _ w' m' i' ⟨hrel, by simpa using g.size, fun j hj => ?_, fun x => ?_, fun j hj hjl => ?_, ?_, size_put.trans g.asz, defers_put.trans g.adef, g.step.trans hst⟩
  · rw [hget] at hj
    by_cases e : j = k
    · rw [e]; exact List.mem_cons_self
    · rw [if_neg e] at hj; exact List.mem_cons_of_mem _ (g.exec j hj)
  · by_cases hdx : o.dst = some x
    · refine .inr ?_
      have hxlt : x < a.tmps.size := by rw [g.asz]; exact inB_lt hd x hdx
      rw [hdx, put_self hxlt, taup_self]
      exact hv
    · rw [put_getD hdx, taup_ne hdx]
      rcases g.tr x with ⟨j, hj, hjl, hjd⟩ | h
      · refine .inl ⟨j, List.mem_cons_of_mem _ hj, ?_, hjd⟩
        rw [hget, if_neg]
        · exact hjl
        · intro e; exact hkR (e ▸ hj)
      · exact .inr (VR.mono hst.mu hst.io _ _ h)
  · rw [hget] at hjl
    by_cases e : j = k
    · rw [if_pos e] at hjl; cases hjl
    · rw [if_neg e] at hjl
      rcases List.mem_cons.1 hj with e' | hj
      · exact absurd e' e
      obtain ⟨o', av', rd', q1, q2, q3, q4, q5, q6, q7, q8⟩ := g.pend j hj hjl
      have hjlt : j < ops.size := (Array.getElem?_eq_some_iff.1 q1).1
      refine ⟨o', av', rd', q1, q2.congr fun x hx => taup_ne fun e => ?_, fun d hd' => ?_, q4, ?_, q6, q7, fun e he => List.mem_cons_of_mem _ (q8 e he)⟩
      · exact (apartd j hj hjl hjlt x e).1 (by rw [readsOf_eq q1]; exact hx)
      · rw [taup_ne]
        · exact q3 d hd'
        · intro e
          exact (apartd j hj hjl hjlt d e).2 (by rw [dstOf_eq q1]; exact hd')
      · rcases hlk av s' hR _ q4 with h1 | h1
        · have := hkpre j (memb_iff.1 h1)
          rw [hjl] at this; cases this
        · exact h1
  · have := count_set hklt g.size hkl
    have := g.count
    omega

theorem J.sound {ops : Array Oper} {Q : Tau → Store → Prop} (hb : backB ops = true) {w0 : World} {m0 : Mu} {i0 : Io} {s0 : Store} {Q' : APost} (hq : ∀ t s, Q t s → Q' .normal t s) {R locks t s} (hJ : J P n ops Q R locks t s) :
    ∀ (fuel : Nat) (listed : Array Bool) (a : Act) (w : World) (m : Mu) (i : Io), Good P n ops w0 m0 i0 s0 R locks t s listed a w m i fuel → wpAny P .any ops (Conc n w0 m0 i0 s0 Q') fuel listed a w := by
  induction hJ with
  | @done R locks t s hR h =>
    intro fuel
    induction fuel with
    | zero =>
      intro listed a w m i g
      have hr := fuel_zero g.size g.count
      exact ⟨hr, t, s, m, i, hq _ _ h, (g.none_left hb hr).2, g.asz, g.adef, g.rel, g.step⟩
    | succ fuel ih =>
      intro listed a w m i g
      refine ⟨fun hr => ⟨t, s, m, i, hq _ _ h, (g.none_left hb hr).2, g.asz, g.adef, g.rel, g.step⟩, fun k hk => ?_⟩
      have hlt := (mem_readyJ hk g.size).1
      exact g.pending (memb_iff.1 (allB_spec hR hlt)) hk fun a' w' m' i' g' => ih _ a' w' m' i' g'
  | @light R locks t s i o av rd ho hk hd hl hrd hJ ih =>
    intro fuel listed a w m ι g
    simp only [lightOk, ahead, Bool.and_eq_true, Bool.not_eq_true'] at hk
    obtain ⟨⟨⟨hlt, hnR⟩, hpre⟩, hun⟩ := hk
    have hnR' : i ∉ R := fun h => by rw [memb_iff.2 h] at hnR; cases hnR
    have hil : listed.getD i false = false := by
      cases h : listed.getD i false with
      | false => rfl
      | true => exact absurd (g.exec i h) hnR'
    have hpre' : ∀ k ∈ predsOf ops i, k ∈ R := fun k hk => memb_iff.1 (List.all_eq_true.1 hpre k hk)
    refine ih fuel listed a w m ι ⟨g.rel, g.size, fun k hk => List.mem_cons_of_mem _ (g.exec k hk), fun x => ?_, fun k hk hkl => ?_, g.count, g.asz, g.adef, g.step⟩
    · by_cases hdx : o.dst = some x
      · exact .inl ⟨i, List.mem_cons_self, hil, by rw [dstOf_eq ho]; exact hdx⟩
      · rw [taup_ne hdx]
        rcases g.tr x with ⟨k, h1, h2, h3⟩ | h
        · exact .inl ⟨k, List.mem_cons_of_mem _ h1, h2, h3⟩
        · exact .inr h
    · rcases List.mem_cons.1 hk with rfl | hk
      · refine ⟨o, av, rd, ho, hl.congr fun x hx => taup_ne fun e => ?_, fun d hd' => by rw [hd']; exact taup_self, List.mem_cons_self, hrd, hun, hd, fun e he => List.mem_cons_of_mem _ (hpre' e he)⟩
        exact uniq_self hun (by rw [dstOf_eq ho]; exact e) (by rw [readsOf_eq ho]; exact hx)
      · obtain ⟨o', av', rd', q1, q2, q3, q4, q5, q6, q7, q8⟩ := g.pend k hk hkl
        have hne : k ≠ i := fun e => hnR' (e ▸ hk)
        have hklt : k < ops.size := (Array.getElem?_eq_some_iff.1 q1).1
        have hilt : i < ops.size := (Array.getElem?_eq_some_iff.1 ho).1
        refine ⟨o', av', rd', q1, q2.congr fun x hx => taup_ne fun e => ?_, fun d hd' => ?_, List.mem_cons_of_mem _ q4, q5, q6, q7, fun e he => List.mem_cons_of_mem _ (q8 e he)⟩
        · have := (uniq_spec hun (by rw [dstOf_eq ho]; exact e) hklt hne).2 (by rw [readsOf_eq q1]; exact hx)
          exact hnR' (q8 i this)
        · rw [taup_ne]
          · exact q3 d hd'
          · intro e
            exact (uniq_spec hun (by rw [dstOf_eq ho]; exact e) hklt hne).1 (by rw [dstOf_eq q1]; exact hd')
  | @heavy R locks t s i o Rr ho hk hd hg hop hlk hJ ih =>
    intro fuel
    simp only [heavyOk, ahead, Bool.and_eq_true, Bool.not_eq_true'] at hk
    obtain ⟨⟨⟨⟨hlt, hnR⟩, hpre⟩, hother⟩, hslot⟩ := hk
    have hnR' : i ∉ R := fun h => by rw [memb_iff.2 h] at hnR; cases hnR
    have hilt : i < ops.size := (Array.getElem?_eq_some_iff.1 ho).1
    induction fuel with
    | zero =>
      intro listed a w m ι g
      have hr := fuel_zero g.size g.count
      exact absurd ((g.none_left hb hr).1 i hilt) hnR'
    | succ fuel ihf =>
      intro listed a w m ι g
      refine ⟨fun hr => absurd ((g.none_left hb hr).1 i hilt) hnR', fun k hk => ?_⟩
      obtain ⟨hklt, hkl, hkpre⟩ := mem_readyJ hk g.size
      by_cases hkR : k ∈ R
      · exact g.pending hkR hk fun a' w' m' i' g' => ihf _ a' w' m' i' g'
      · by_cases hki : k = i
        · subst hki
          refine g.turn hk hkR ho hslot hd hg hop hlk ?_
          intro av s' hR a' w' m' i' g'
          exact ih av s' hR fuel _ _ w' m' i' g'
        · exfalso
          have := allB_spec hother hklt
          simp only [Bool.or_eq_true, List.any_eq_true, Bool.not_eq_true'] at this
          rcases this with (h1 | h1) | ⟨e, he, h2⟩
          · exact hkR (memb_iff.1 h1)
          · exact hki (Nat.eq_of_beq_eq_true h1)
          · have := g.exec e (hkpre e he)
            rw [memb_iff.2 this] at h2; cases h2
  | @two R locks t s i o Rr j o2 Rr2 ho ho2 hk hd hg hop hlk _ hd2 hg2 hop2 hlk2 _ ih ih2 =>
    intro fuel
    simp only [twoOk, ahead, Bool.and_eq_true, Bool.not_eq_true'] at hk
    obtain ⟨⟨⟨⟨⟨hlt, hnR⟩, hpre⟩, ⟨⟨hlt2, hnR2⟩, hpre2⟩⟩, hother⟩, hslot, hslot2⟩ := hk
    have hnR' : i ∉ R := fun h => by rw [memb_iff.2 h] at hnR; cases hnR
    have hilt : i < ops.size := (Array.getElem?_eq_some_iff.1 ho).1
    induction fuel with
    | zero =>
      intro listed a w m ι g
      have hr := fuel_zero g.size g.count
      exact absurd ((g.none_left hb hr).1 i hilt) hnR'
    | succ fuel ihf =>
      intro listed a w m ι g
      refine ⟨fun hr => absurd ((g.none_left hb hr).1 i hilt) hnR', fun k hk => ?_⟩
      obtain ⟨hklt, hkl, hkpre⟩ := mem_readyJ hk g.size
      by_cases hkR : k ∈ R
      · exact g.pending hkR hk fun a' w' m' i' g' => ihf _ a' w' m' i' g'
      · by_cases hki : k = i
        · subst hki
          refine g.turn hk hkR ho hslot hd hg hop hlk ?_
          intro av s' hR a' w' m' i' g'
          exact ih av s' hR fuel _ _ w' m' i' g'
        · by_cases hkj : k = j
          · subst hkj
            refine g.turn hk hkR ho2 hslot2 hd2 hg2 hop2 hlk2 ?_
            intro av s' hR a' w' m' i' g'
            exact ih2 av s' hR fuel _ _ w' m' i' g'
          exfalso
          have := allB_spec hother hklt
          simp only [Bool.or_eq_true, List.any_eq_true, Bool.not_eq_true'] at this
          rcases this with ((h1 | h1) | h1) | ⟨e, he, h2⟩
          · exact hkR (memb_iff.1 h1)
          · exact hki (Nat.eq_of_beq_eq_true h1)
          · exact hkj (Nat.eq_of_beq_eq_true h1)
          · have := g.exec e (hkpre e he)
            rw [memb_iff.2 this] at h2; cases h2
  | perm hp _ ih =>
    intro fuel listed a w m ι g
    refine ih fuel listed a w m ι ⟨g.rel.perm hp, g.size, g.exec, g.tr, fun k hk hkl => ?_, g.count, g.asz, g.adef, g.step.perm (List.Perm.refl _) hp⟩
    obtain ⟨o', av', rd', q1, q2, q3, q4, q5, q6⟩ := g.pend k hk hkl
    exact ⟨o', av', rd', q1, q2, q3, q4, fun p hp' => hp.mem_iff.1 (q5 p hp'), q6⟩
  | reR hm _ ih =>
    intro fuel listed a w m ι g
    refine ih fuel listed a w m ι ⟨g.rel, g.size, fun k hk => (hm k).1 (g.exec k hk), fun x => ?_, fun k hk hkl => ?_, g.count, g.asz, g.adef, g.step⟩
    · rcases g.tr x with ⟨k, h1, h2⟩ | h
      · exact .inl ⟨k, (hm k).1 h1, h2⟩
      · exact .inr h
    · obtain ⟨o', av', rd', q1, q2, q3, q4, q5, q6, q7, q8⟩ := g.pend k ((hm k).2 hk) hkl
      exact ⟨o', av', rd', q1, q2, q3, q4, q5, q6, q7, fun e he => (hm e).1 (q8 e he)⟩

theorem Rel.drew {w m i} {s : Store} (h : Rel w m i s) (d : Nat) : Rel { w with drawn := d } m i s ∧ Step w m i s { w with drawn := d } m i s :=
  ⟨⟨h.mu, fun p hp => (h.obj p hp).mono_block (Mu.le_refl _) (Io.le_refl _) (fun _ _ => rfl) (fun _ _ _ => rfl), h.apart, h.fin⟩,
    ⟨rfl, rfl, rfl, Nat.le_refl _, Mu.le_refl _, Io.le_refl _, fun _ _ _ => rfl, fun _ _ _ _ => rfl, fun p hp => .inl ⟨p, hp, rfl⟩, fun _ h => .inl h⟩⟩

/-- A region that draws its order. -/
theorem aw_draw {id : Nat} {ops : Array Oper} {Q : APost} {t : Tau} {s : Store} (hm : P.follows .mixedOrders = true) (hb : backB ops = true) (h : J P n ops (Q .normal) [] [] t s) : AWp P n (.region id ops true) Q t s := by
  intro a w m i h1 h2 h3 h4
  refine wp_region_any hm ?_
  obtain ⟨r1, r2⟩ := h1.drew (w.drawn + 1)
  refine J.sound hb (Q' := Q) (fun _ _ h => h) h ops.size _ a _ m i ⟨r1, by simp, fun k hk => ?_, fun x => .inr (h2 x), (fun k hk => by cases hk), ?_, h3, h4, r2⟩
  · exfalso
    rw [Array.getD_eq_getD_getElem?, Array.getElem?_replicate] at hk
    split at hk <;> simp at hk
  · exact Nat.le_trans (List.length_filter_le _ _) (by simp)

/-- many plain ones at once -/
def jrun (T : TT) (n : Nat) (ops : Array Oper) : List Nat → List Nat → Tau → Option (List Nat × Tau)
  | [], R, t => some (R, t)
  | i :: l, R, t =>
    match ops[i]? with
    | none => none
    | some o =>
      if lightOk ops R i && inB o.dst n then
        match gd ops t o with
        | none => none
        | some false => jrun T n ops l (i :: R) (t.put o.dst (.lit undef))
        | some true => match pop T t o.op with
          | none => none
          | some v => jrun T n ops l (i :: R) (t.put o.dst v)
      else none

theorem J.sub {ops : Array Oper} {Q : Tau → Store → Prop} {R : List Nat} {locks locks' : List (Nat × Store)} {t : Tau} {s : Store} (h : J P n ops Q R locks t s) (hl : ∀ l ∈ locks', l ∈ locks ∨ l.2 = []) : J P n ops Q R locks' t s := by
  induction h generalizing locks' with
  | done hR h => exact .done hR h
  | light i o av rd ho hk hd hsem hrd _ ih =>
    refine .light i o av rd ho hk hd hsem hrd (ih fun l hm => ?_)
    rcases List.mem_cons.1 hm with rfl | hm
    · exact .inl List.mem_cons_self
    · exact (hl l hm).imp (List.mem_cons_of_mem _) id
  | heavy i o Rr ho hk hd hg hop hlk _ ih =>
    refine .heavy i o Rr ho hk hd hg hop (fun av s' hR l hm => ?_) fun av s' hR => ih av s' hR hl
    rcases hl l hm with h1 | h1
    · exact hlk av s' hR l h1
    · exact .inr (by rw [h1]; intro p hp; cases hp)
  | two i o Rr j o2 Rr2 ho ho2 hk hd hg hop hlk _ hd2 hg2 hop2 hlk2 _ ih ih2 =>
    refine .two i o Rr j o2 Rr2 ho ho2 hk hd hg hop (fun av s' hR l hm => ?_) (fun av s' hR => ih av s' hR hl) hd2 hg2 hop2 (fun av s' hR l hm => ?_) (fun av s' hR => ih2 av s' hR hl)
    · rcases hl l hm with h1 | h1
      · exact hlk av s' hR l h1
      · exact .inr (by rw [h1]; intro p hp; cases hp)
    · rcases hl l hm with h1 | h1
      · exact hlk2 av s' hR l h1
      · exact .inr (by rw [h1]; intro p hp; cases hp)
  | perm hp _ ih => exact .perm hp (ih hl)
  | reR hm _ ih => exact .reR hm (ih hl)

theorem j_run_aux {T : TT} (hT : TTok P T) {ops : Array Oper} {Q : Tau → Store → Prop} {s : Store} {locks : List (Nat × Store)} : ∀ (l R R' : List Nat) (t t' : Tau), jrun T n ops l R t = some (R', t') → J P n ops Q R' locks t' s → J P n ops Q R locks t s
  | [], R, R', t, t', h, k => by cases h; exact k
  | i :: l, R, R', t, t', h, k => by
    simp only [jrun] at h
    split at h
    · cases h
    · rename_i o ho
      split at h
      · rename_i hok
        simp only [Bool.and_eq_true] at hok
        split at h
        · cases h
        · rename_i hg
          exact .light i o (.lit undef) [] ho hok.1 hok.2 (.inl ⟨hg, rfl⟩) (fun p hp => by cases hp) ((j_run_aux hT l (i :: R) R' _ t' h k).sub fun l hm => by
            rcases List.mem_cons.1 hm with rfl | hm
            · exact .inr rfl
            · exact .inl hm)
        · rename_i hg
          split at h
          · cases h
          · rename_i v hv
            exact .light i o v [] ho hok.1 hok.2 (.inr ⟨hg, fun s _ => pop_sound hT hv⟩) (fun p hp => by cases hp) ((j_run_aux hT l (i :: R) R' _ t' h k).sub fun l hm => by
              rcases List.mem_cons.1 hm with rfl | hm
              · exact .inr rfl
              · exact .inl hm)
      · cases h

def jtau (T : TT) (n : Nat) (ops : Array Oper) (l R : List Nat) (t : Tau) : Tau := match jrun T n ops l R t with | some p => p.2 | none => t

/-- What is behind many plain ones. -/
theorem j_run {T : TT} (hT : TTok P T) {ops : Array Oper} {Q : Tau → Store → Prop} {s : Store} {locks : List (Nat × Store)} (l : List Nat) {R : List Nat} (R' : List Nat) {t : Tau}
    (hp : (jrun T n ops l R t).map (·.1) = some R') (k : J P n ops Q R' locks (jtau T n ops l R t) s) : J P n ops Q R locks t s := by
  unfold jtau at k
  cases hr : jrun T n ops l R t with
  | none => rw [hr] at hp; simp at hp
  | some p =>
    obtain ⟨R1, t1⟩ := p
    rw [hr] at hp k
    simp at hp
    subst hp
    exact j_run_aux hT l R R1 t t1 hr k

theorem aw_trim {c : Code} {Q : APost} {t : Tau} {s : Store} (live : List (Nat × AV)) (h : (live.map (·.1)).map t = live.map (·.2)) (k : AWp P n c Q (tauOf live) s) : AWp P n c Q t s :=
  fun a w m i h1 h2 h3 h4 => k a w m i h1 (h2.sub (tauOf_sub live h)) h3 h4

theorem at_trim {ops : Array Oper} {j : Nat} {Q : Tau → Store → Prop} {t : Tau} {s : Store} (live : List (Nat × AV)) (h : (live.map (·.1)).map t = live.map (·.2)) (k : AAt P n ops j Q (tauOf live) s) : AAt P n ops j Q t s :=
  fun a w m i h1 h2 h3 h4 => k a w m i h1 (h2.sub (tauOf_sub live h)) h3 h4
end
end Go.Am
