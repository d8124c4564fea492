/- The abstract machine, part 1: abstract values, what they stand for in a world, the small store of mutable objects, the frame rule. -/
import Derived.WalkKit
namespace Go.Am
open Go

/-- Trees of nodes: nothing, or a node: its kind, its number, its name, its mark, its kids. -/
inductive Tr where
  | nil
  | node (kind n : Int) (name mark : List UInt8) (kids : List Tr)

/-- What a value is, seen apart from where it lies: immutable memory is what it holds; a mutable object has a number. -/
inductive AV where
  | lit (v : Value)
  | tree (t : Tr)
  | ptr (cs : List AV)
  | slc (cs : List AV) (n : Nat) (full : Bool)
  | nslc (cs : List AV) (n : Nat) (full : Bool)
  | ref (id : Nat) (off : Nat)
  | row (id : Nat) (n : Nat)
  | fn (f : Fn) (first caps : List AV)
  | mp (id : Nat)
  | it (id : Nat)
  | agg (cs : List AV)
  | tup (cs : List AV)
  | any

abbrev Mu := Nat → Nat → Option Value
abbrev Io := Nat → Option (Option (Nat × Nat))

def Mu.le (m m' : Mu) : Prop := ∀ b o v, m b o = some v → m' b o = some v
def Io.le (i i' : Io) : Prop := ∀ k x, i k = some x → i' k = some x
theorem Mu.le_refl (m : Mu) : m.le m := fun _ _ _ h => h
theorem Io.le_refl (m : Io) : m.le m := fun _ _ h => h
theorem Mu.le_trans {a b c : Mu} (h : a.le b) (k : b.le c) : a.le c := fun x y v e => k x y v (h x y v e)
theorem Io.le_trans {a b c : Io} (h : a.le b) (k : b.le c) : a.le c := fun x v e => k x v (h x v e)

def Ones (vs : List Value) : Prop := ∀ v ∈ vs, v.oneCell' = true

mutual
/-- A pointer to a tree of immutable nodes. -/
def VT (m : Mu) : Tr → Value → Prop
  | .nil, x => x = .pointer none
  | .node k n nm mk ks, x => ∃ b o v, x = .pointer (some ⟨b, o, none⟩) ∧ m b o = some (.int .i64 k) ∧ m b (o + 1) = some (.int .i64 n) ∧ m b (o + 2) = some (.string ⟨nm.toArray⟩) ∧
      m b (o + 3) = some (.string ⟨mk.toArray⟩) ∧ m b (o + 4) = some v ∧ ((ks = [] ∧ ∃ a, v = .slice a 0 0) ∨ ∃ b' o' cap, v = .slice (some ⟨b', o', none⟩) ks.length cap ∧ ks.length ≤ cap ∧ cap ≤ maxLen ∧ VTs m ks b' o')
def VTs (m : Mu) : List Tr → Nat → Nat → Prop
  | [], _, _ => True
  | k :: ks, b, o => (∃ v, m b o = some v ∧ VT m k v) ∧ VTs m ks b (o + 1)
end

mutual
/-- What a value of the model is, that an abstract one stands for. -/
def VR (m : Mu) (i : Io) : AV → Value → Prop
  | .lit v, x => x = v
  | .tree t, x => VT m t x
  | .ptr cs, x => ∃ b o, x = .pointer (some ⟨b, o, none⟩) ∧ VC m i cs b o
  | .slc cs n full, x => (n = 0 ∧ cs = [] ∧ ∃ a, x = .slice a 0 0) ∨
      ∃ b o cap, x = .slice (some ⟨b, o, none⟩) n cap ∧ n ≤ cap ∧ cap ≤ maxLen ∧ (full = true → cap = n) ∧ VC m i cs b o
  | .nslc cs n full, x => (n = 0 ∧ cs = [] ∧ ∃ a, x = .slice (some a) 0 0) ∨ ∃ b o cap, x = .slice (some ⟨b, o, none⟩) n cap ∧ n ≤ cap ∧ cap ≤ maxLen ∧ (full = true → cap = n) ∧ VC m i cs b o
  | .ref id off, x => ∃ b c, i id = some (some (b, c)) ∧ x = .pointer (some ⟨b, off, none⟩)
  | .row id n, x => (i id = some none ∧ n = 0 ∧ x = .slice none 0 0) ∨ ∃ b cap, i id = some (some (b, cap)) ∧ n ≤ cap ∧ x = .slice (some ⟨b, 0, none⟩) n cap
  | .fn f first caps, x => ∃ fs cs : List Value, x = .func f fs.toArray cs.toArray ∧ VL m i first fs ∧ VL m i caps cs
  | .mp id, x => ∃ b c, i id = some (some (b, c)) ∧ x = .map (some b)
  | .it id, x => ∃ b c, i id = some (some (b, c)) ∧ x = .pointer (some ⟨b, 0, none⟩)
  | .agg cs, x => ∃ vs : List Value, x = .agg vs.toArray ∧ Ones vs ∧ VL m i cs vs
  | .tup cs, x => ∃ vs : List Value, x = .tuple vs.toArray ∧ VL m i cs vs
  | .any, _ => True
/-- The cells from an offset on, all of them immutable. -/
def VC (m : Mu) (i : Io) : List AV → Nat → Nat → Prop
  | [], _, _ => True
  | c :: cs, b, o => (∃ v, m b o = some v ∧ VR m i c v) ∧ VC m i cs b (o + 1)
def VL (m : Mu) (i : Io) : List AV → List Value → Prop
  | [], vs => vs = []
  | c :: cs, vs => ∃ v vs', vs = v :: vs' ∧ VR m i c v ∧ VL m i cs vs'
end

mutual
theorem VT.mono {m m' : Mu} (hm : m.le m') : ∀ (t : Tr) (x : Value), VT m t x → VT m' t x
  | .nil, _, h => h
  | .node k n nm mk ks, x, h => by
    obtain ⟨b, o, v, h1, h2, h3, h4, h5, h6, h7⟩ := h
    refine ⟨b, o, v, h1, hm _ _ _ h2, hm _ _ _ h3, hm _ _ _ h4, hm _ _ _ h5, hm _ _ _ h6, ?_⟩
    rcases h7 with h7 | ⟨b', o', cap, h8, h9, h10, h11⟩
    · exact .inl h7
    · exact .inr ⟨b', o', cap, h8, h9, h10, VTs.mono hm ks b' o' h11⟩
theorem VTs.mono {m m' : Mu} (hm : m.le m') : ∀ (ks : List Tr) (b o : Nat), VTs m ks b o → VTs m' ks b o
  | [], _, _, _ => trivial
  | k :: ks, b, o, ⟨⟨v, h1, h2⟩, h3⟩ => ⟨⟨v, hm _ _ _ h1, VT.mono hm k v h2⟩, VTs.mono hm ks b (o + 1) h3⟩
end

mutual
theorem VR.mono {m m' : Mu} {i i' : Io} (hm : m.le m') (hi : i.le i') : ∀ (a : AV) (x : Value), VR m i a x → VR m' i' a x
  | .lit v, x, h => h
  | .tree t, x, h => VT.mono hm t x h
  | .ptr cs, x, h => by
    obtain ⟨b, o, h1, h2⟩ := h
    exact ⟨b, o, h1, VC.mono hm hi cs b o h2⟩
  | .slc cs n full, x, h => by
    rcases h with h | ⟨b, o, cap, h1, h2, h2', h3, h4⟩
    · exact .inl h
    · exact .inr ⟨b, o, cap, h1, h2, h2', h3, VC.mono hm hi cs b o h4⟩
  | .nslc cs n full, x, h => by
    rcases h with h | ⟨b, o, cap, h1, h2, h2', h3, h4⟩
    · exact .inl h
    · exact .inr ⟨b, o, cap, h1, h2, h2', h3, VC.mono hm hi cs b o h4⟩
  | .ref id off, x, h => by
    obtain ⟨b, c, h1, h2⟩ := h
    exact ⟨b, c, hi _ _ h1, h2⟩
  | .row id n, x, h => by
    rcases h with ⟨h1, h2⟩ | ⟨b, cap, h1, h2⟩
    · exact .inl ⟨hi _ _ h1, h2⟩
    · exact .inr ⟨b, cap, hi _ _ h1, h2⟩
  | .fn f first caps, x, h => by
    obtain ⟨fs, cs, h1, h2, h3⟩ := h
    exact ⟨fs, cs, h1, VL.mono hm hi first fs h2, VL.mono hm hi caps cs h3⟩
  | .mp id, x, h => by
    obtain ⟨b, c, h1, h2⟩ := h
    exact ⟨b, c, hi _ _ h1, h2⟩
  | .it id, x, h => by
    obtain ⟨b, c, h1, h2⟩ := h
    exact ⟨b, c, hi _ _ h1, h2⟩
  | .agg cs, x, h => by
    obtain ⟨vs, h1, h0, h2⟩ := h
    exact ⟨vs, h1, h0, VL.mono hm hi cs vs h2⟩
  | .tup cs, x, h => by
    obtain ⟨vs, h1, h2⟩ := h
    exact ⟨vs, h1, VL.mono hm hi cs vs h2⟩
  | .any, _, _ => trivial
theorem VC.mono {m m' : Mu} {i i' : Io} (hm : m.le m') (hi : i.le i') : ∀ (cs : List AV) (b o : Nat), VC m i cs b o → VC m' i' cs b o
  | [], _, _, _ => trivial
  | c :: cs, b, o, ⟨⟨v, h1, h2⟩, h3⟩ => ⟨⟨v, hm _ _ _ h1, VR.mono hm hi c v h2⟩, VC.mono hm hi cs b (o + 1) h3⟩
theorem VL.mono {m m' : Mu} {i i' : Io} (hm : m.le m') (hi : i.le i') : ∀ (cs : List AV) (vs : List Value), VL m i cs vs → VL m' i' cs vs
  | [], _, h => h
  | c :: cs, vs, ⟨v, vs', h1, h2, h3⟩ => ⟨v, vs', h1, VR.mono hm hi c v h2, VL.mono hm hi cs vs' h3⟩
end

/-- A mutable object: a row of elements (each of 'sz' cells) that may have been appended to; a struct, a variable: a row of one. The first 'fz' cells are immutable. -/
inductive Ob where
  | row (e : TypeId) (sz : Nat) (cs : List AV) (fz : Nat)
  | map (es : List (Value × AV))
  | iter (s : ByteArray) (pos : Nat)

abbrev Store := List (Nat × Ob)

def blk (i : Io) (id : Nat) : Option Nat := match i id with | some (some (b, _)) => some b | _ => none

def EL (m : Mu) (i : Io) : List (Value × AV) → List MapEntry → Prop
  | [], l => l = []
  | p :: es, l => ∃ e l', l = e :: l' ∧ e.key = p.1 ∧ VR m i p.2 e.val ∧ EL m i es l'

theorem EL.mono {m m' : Mu} {i i' : Io} (hm : m.le m') (hi : i.le i') : ∀ (es : List (Value × AV)) (l : List MapEntry), EL m i es l → EL m' i' es l
  | [], _, h => h
  | p :: es, l, ⟨e, l', h1, h2, h3, h4⟩ => ⟨e, l', h1, h2, VR.mono hm hi _ _ h3, EL.mono hm hi es l' h4⟩

def OR (w : World) (m : Mu) (i : Io) (id : Nat) : Ob → Prop
  | .row e sz cs fz => (i id = some none ∧ cs = [] ∧ fz = 0) ∨
      ∃ b cap vs, i id = some (some (b, cap)) ∧ w.heap[b]? = some (.cells vs e (0, 0)) ∧ vs.size = cap * sz ∧ cap ≤ maxLen ∧ cs.length ≤ vs.size ∧ fz ≤ cs.length ∧ Ones (vs.toList.take cs.length) ∧
        VL m i cs (vs.toList.take cs.length) ∧ (∀ o, o < fz → m b o = vs[o]?) ∧ (∀ o, fz ≤ o → m b o = none)
  | .map es => ∃ b c ces clock, i id = some (some (b, c)) ∧ w.heap[b]? = some (.map ces clock) ∧ EL m i es ces.toList
  | .iter s pos => ∃ b c, i id = some (some (b, c)) ∧ w.heap[b]? = some (.stringIter s pos)

def apart (i : Io) (p q : Nat × Ob) : Prop := p.1 ≠ q.1 ∧ ∀ b, blk i p.1 = some b → blk i q.1 ≠ some b

structure Rel (w : World) (m : Mu) (i : Io) (s : Store) : Prop where
  mu : ∀ b o v, m b o = some v → w.cell? ⟨b, o, none⟩ = some v ∧ v.oneCell' = true
  obj : ∀ p ∈ s, OR w m i p.1 p.2
  apart : s.Pairwise (apart i)
  fin : ∃ N, ∀ k, N ≤ k → i k = none

theorem apart.symm {i : Io} {p q : Nat × Ob} (h : apart i p q) : apart i q p := ⟨h.1.symm, fun b hb hp => h.2 b hp hb⟩

theorem OR.id {w : World} {m : Mu} {i : Io} {id : Nat} {o : Ob} (h : OR w m i id o) : ∃ x, i id = some x := by
  cases o with
  | row e sz cs fz =>
    rcases h with ⟨h, _⟩ | ⟨b, cap, vs, h, _⟩
    · exact ⟨_, h⟩
    · exact ⟨_, h⟩
  | map es => obtain ⟨b, c, ces, clock, h, _⟩ := h; exact ⟨_, h⟩
  | iter s pos => obtain ⟨b, c, h, _⟩ := h; exact ⟨_, h⟩

theorem OR.lt {w : World} {m : Mu} {i : Io} {id : Nat} {o : Ob} (h : OR w m i id o) {b : Nat} (hb : blk i id = some b) : b < w.heap.size := by
  have get : ∀ {b : Nat} {x : Go.Obj}, w.heap[b]? = some x → b < w.heap.size := fun h => (Array.getElem?_eq_some_iff.1 h).1
  cases o with
  | row e sz cs fz =>
    rcases h with ⟨h, _⟩ | ⟨b', cap, vs, h, h2, _⟩
    · simp [blk, h] at hb
    · simp [blk, h] at hb; subst hb; exact get h2
  | map es => obtain ⟨b', c, ces, clock, h, h2, _⟩ := h; simp [blk, h] at hb; subst hb; exact get h2
  | iter s pos => obtain ⟨b', c, h, h2⟩ := h; simp [blk, h] at hb; subst hb; exact get h2

def owns (i : Io) (s : Store) (b : Nat) : Prop := ∃ p ∈ s, blk i p.1 = some b

/-- From one state to another one: all that is not owned stays; new objects have new numbers and lie in new blocks, or in blocks that were owned. -/
structure Step (w : World) (m : Mu) (i : Io) (s : Store) (w' : World) (m' : Mu) (i' : Io) (s' : Store) : Prop where
  os : w'.os = w.os
  tape : w'.tape = w.tape
  output : w'.output = w.output
  size : w.heap.size ≤ w'.heap.size
  mu : m.le m'
  io : i.le i'
  block : ∀ b, b < w.heap.size → ¬ owns i s b → w'.heap[b]? = w.heap[b]?
  mu' : ∀ b, b < w.heap.size → ¬ owns i s b → ∀ o, m' b o = m b o
  ids : ∀ p ∈ s', (∃ q ∈ s, q.1 = p.1) ∨ i p.1 = none
  blks : ∀ b, owns i' s' b → owns i s b ∨ w.heap.size ≤ b

theorem blk_le {i i' : Io} (h : i.le i') {k : Nat} {b : Nat} (hb : blk i k = some b) : blk i' k = some b := by
  unfold blk at *
  cases hk : i k with
  | none => simp [hk] at hb
  | some x => rw [h _ _ hk]; rw [hk] at hb; exact hb

theorem blk_eq {i i' : Io} (h : i.le i') {k : Nat} {x} (hk : i k = some x) : blk i' k = blk i k := by
  unfold blk; rw [h _ _ hk, hk]

theorem Step.refl (w : World) (m : Mu) (i : Io) (s : Store) : Step w m i s w m i s :=
  ⟨rfl, rfl, rfl, Nat.le_refl _, Mu.le_refl _, Io.le_refl _, fun _ _ _ => rfl, fun _ _ _ _ => rfl, fun p hp => .inl ⟨p, hp, rfl⟩, fun _ h => .inl h⟩

theorem Step.trans {w m i s w1 m1 i1 s1 w2 m2 i2 s2} (h : Step w m i s w1 m1 i1 s1) (k : Step w1 m1 i1 s1 w2 m2 i2 s2) : Step w m i s w2 m2 i2 s2 where
  os := k.os.trans h.os
  tape := k.tape.trans h.tape
  output := k.output.trans h.output
  size := Nat.le_trans h.size k.size
  mu := Mu.le_trans h.mu k.mu
  io := Io.le_trans h.io k.io
  block b hb ho := by
    have hn : ¬ owns i1 s1 b := fun hh => by
      rcases h.blks b hh with h1 | h1
      · exact ho h1
      · omega
    rw [k.block b (Nat.lt_of_lt_of_le hb h.size) hn, h.block b hb ho]
  mu' b hb ho o := by
    have hn : ¬ owns i1 s1 b := fun hh => by
      rcases h.blks b hh with h1 | h1
      · exact ho h1
      · omega
    rw [k.mu' b (Nat.lt_of_lt_of_le hb h.size) hn, h.mu' b hb ho]
  ids p hp := by
    rcases k.ids p hp with ⟨q, hq, e⟩ | e
    · rcases h.ids q hq with ⟨r, hr, e'⟩ | e'
      · exact .inl ⟨r, hr, e'.trans e⟩
      · exact .inr (e ▸ e')
    · refine .inr ?_
      cases hk : i p.1 with
      | none => rfl
      | some x => rw [h.io _ _ hk] at e; cases e
  blks b hb := by
    rcases k.blks b hb with h1 | h1
    · exact h.blks b h1
    · exact .inr (Nat.le_trans h.size h1)

theorem OR.mono_block {w w' : World} {m m' : Mu} {i i' : Io} (hm : m.le m') (hi : i.le i') {id : Nat} {o : Ob} (h : OR w m i id o)
    (hb : ∀ b, blk i id = some b → w'.heap[b]? = w.heap[b]?) (hmu : ∀ b, blk i id = some b → ∀ o, m' b o = m b o) : OR w' m' i' id o := by
  cases o with
  | row e sz cs fz =>
    rcases h with ⟨h, h2⟩ | ⟨b, cap, vs, h1, h2, h3, h4, h5, h6, h0, h7, h8, h9⟩
    · exact .inl ⟨hi _ _ h, h2⟩
    · have hbb : blk i id = some b := by simp [blk, h1]
      exact .inr ⟨b, cap, vs, hi _ _ h1, (hb b hbb).trans h2, h3, h4, h5, h6, h0, VL.mono hm hi _ _ h7, fun o ho => (hmu b hbb o).trans (h8 o ho), fun o ho => (hmu b hbb o).trans (h9 o ho)⟩
  | map es =>
    obtain ⟨b, c, ces, clock, h1, h2, h3⟩ := h
    have hbb : blk i id = some b := by simp [blk, h1]
    exact ⟨b, c, ces, clock, hi _ _ h1, (hb b hbb).trans h2, EL.mono hm hi _ _ h3⟩
  | iter s pos =>
    obtain ⟨b, c, h1, h2⟩ := h
    have hbb : blk i id = some b := by simp [blk, h1]
    exact ⟨b, c, hi _ _ h1, (hb b hbb).trans h2⟩

theorem Rel.sub {w m i s t} (h : Rel w m i s) (hs : t.Sublist s) : Rel w m i t :=
  ⟨h.mu, fun p hp => h.obj p (hs.subset hp), h.apart.sublist hs, h.fin⟩

theorem Rel.perm {w m i} {s t : Store} (h : Rel w m i s) (hp : s.Perm t) : Rel w m i t :=
  ⟨h.mu, fun p hq => h.obj p (hp.mem_iff.2 hq), (hp.pairwise_iff (fun h => apart.symm h)).1 h.apart, h.fin⟩

theorem owns_perm {i : Io} {s t : Store} (hp : s.Perm t) {b : Nat} : owns i s b ↔ owns i t b :=
  ⟨fun ⟨p, h, e⟩ => ⟨p, hp.mem_iff.1 h, e⟩, fun ⟨p, h, e⟩ => ⟨p, hp.mem_iff.2 h, e⟩⟩

/-- The frame rule: what is done with a part of the store is done with the whole; the rest is as it was. -/
theorem Rel.frame {w m i} {s t : Store} {w' m' i' s'} (h : Rel w m i (s ++ t)) (k : Step w m i s w' m' i' s') (r : Rel w' m' i' s') :
    Rel w' m' i' (s' ++ t) ∧ Step w m i (s ++ t) w' m' i' (s' ++ t) := by
  have hap := List.pairwise_append.1 h.apart
  have hnot : ∀ q ∈ t, ∀ b, blk i q.1 = some b → ¬ owns i s b := fun q hq b hb ⟨p, hp, e⟩ => (hap.2.2 p hp q hq).2 b e hb
  have hq : ∀ q ∈ t, OR w' m' i' q.1 q.2 := fun q hq => by
    have ho := h.obj q (List.mem_append_right _ hq)
    exact ho.mono_block k.mu k.io (fun b hb => k.block b (ho.lt hb) (hnot q hq b hb)) (fun b hb => k.mu' b (ho.lt hb) (hnot q hq b hb))
  refine ⟨⟨r.mu, fun p hp => ?_, ?_, r.fin⟩, ?_⟩
  · rcases List.mem_append.1 hp with h1 | h1
    · exact r.obj p h1
    · exact hq p h1
  · refine List.pairwise_append.2 ⟨r.apart, ?_, ?_⟩
    · refine hap.2.1.imp_of_mem ?_
      intro p q hp hq' hpq
      obtain ⟨x, hx⟩ := (h.obj p (List.mem_append_right _ hp)).id
      obtain ⟨y, hy⟩ := (h.obj q (List.mem_append_right _ hq')).id
      exact ⟨hpq.1, fun b hb => by rw [blk_eq k.io hx] at hb; rw [blk_eq k.io hy]; exact hpq.2 b hb⟩
    · intro p hp q hq'
      obtain ⟨y, hy⟩ := (h.obj q (List.mem_append_right _ hq')).id
      refine ⟨fun e => ?_, fun b hb hbq => ?_⟩
      · rcases k.ids p hp with ⟨r0, hr, e'⟩ | e'
        · exact (hap.2.2 r0 hr q hq').1 (e'.trans e)
        · rw [e, hy] at e'; cases e'
      · rw [blk_eq k.io hy] at hbq
        rcases k.blks b ⟨p, hp, hb⟩ with h1 | h1
        · exact hnot q hq' b hbq h1
        · have := (h.obj q (List.mem_append_right _ hq')).lt hbq; omega
  · refine ⟨k.os, k.tape, k.output, k.size, k.mu, k.io, fun b hb ho => k.block b hb fun ⟨p, hp, e⟩ => ho ⟨p, List.mem_append_left _ hp, e⟩,
      fun b hb ho => k.mu' b hb fun ⟨p, hp, e⟩ => ho ⟨p, List.mem_append_left _ hp, e⟩, fun p hp => ?_, fun b ⟨p, hp, e⟩ => ?_⟩
    · rcases List.mem_append.1 hp with h1 | h1
      · rcases k.ids p h1 with ⟨q, hq1, e⟩ | e
        · exact .inl ⟨q, List.mem_append_left _ hq1, e⟩
        · exact .inr e
      · exact .inl ⟨p, List.mem_append_right _ h1, rfl⟩
    · rcases List.mem_append.1 hp with h1 | h1
      · rcases k.blks b ⟨p, h1, e⟩ with ⟨q, hq1, e'⟩ | h2
        · exact .inl ⟨q, List.mem_append_left _ hq1, e'⟩
        · exact .inr h2
      · obtain ⟨y, hy⟩ := (h.obj p (List.mem_append_right _ h1)).id
        rw [blk_eq k.io hy] at e
        exact .inl ⟨p, List.mem_append_right _ h1, e⟩

theorem Step.perm {w m i} {s t : Store} {w' m' i' s' t'} (h : Step w m i s w' m' i' s') (hp : s.Perm t) (hq : s'.Perm t') : Step w m i t w' m' i' t' :=
  ⟨h.os, h.tape, h.output, h.size, h.mu, h.io, fun b hb ho => h.block b hb fun hh => ho ((owns_perm hp).1 hh), fun b hb ho => h.mu' b hb fun hh => ho ((owns_perm hp).1 hh),
    fun p hpp => by
      rcases h.ids p (hq.mem_iff.2 hpp) with ⟨q, h1, e⟩ | e
      · exact .inl ⟨q, hp.mem_iff.1 h1, e⟩
      · exact .inr e,
    fun b hb => by
      rcases h.blks b ((owns_perm hq).2 hb) with h1 | h1
      · exact .inl ((owns_perm hp).1 h1)
      · exact .inr h1⟩

/-- Objects may be forgotten. -/
theorem Step.forget {w m i} {s : Store} {w' m' i' s' t'} (h : Step w m i s w' m' i' s') (hq : ∀ p ∈ t', p ∈ s') : Step w m i s w' m' i' t' :=
  ⟨h.os, h.tape, h.output, h.size, h.mu, h.io, h.block, h.mu', fun p hp => h.ids p (hq p hp), fun b ⟨p, hp, e⟩ => h.blks b ⟨p, hq p hp, e⟩⟩

end Go.Am
