/- Joined texts: Am0, Am1, Am2, Am3, Am4, Am5, Am6, Am7, Am8, Am9. -/
import Derived.WalkKit
/- What the tables of Go's library hold that this seat's code reads: by the number of the variable: utf8.first, utf8.acceptRanges. -/
namespace Go.Am
open Go
def bAF:List Int:=[240,240,240,240,240,240,240,240,240,240,240,240,240,240,240,240,240,240,240,240,240,240,240,240,240,240,240,240,240,240,240,240,240,240,240,240,240,240,240,240,240,240,240,240,240,240,240,240,240,240,240,240,240,240,240,240,240,240,240,240,240,240,240,240,240,240,240,240,240,240,240,240,240,240,240,240,240,240,240,240,240,240,240,240,240,240,240,240,240,240,240,240,240,240,240,240,240,240,240,240,240,240,240,240,240,240,240,240,240,240,240,240,240,240,240,240,240,240,240,240,240,240,240,240,240,240,240,240,241,241,241,241,241,241,241,241,241,241,241,241,241,241,241,241,241,241,241,241,241,241,241,241,241,241,241,241,241,241,241,241,241,241,241,241,241,241,241,241,241,241,241,241,241,241,241,241,241,241,241,241,241,241,241,241,241,241,241,241,241,241,241,241,241,241,2,2,2,2,2,2,2,2,2,2,2,2,2,2,2,2,2,2,2,2,2,2,2,2,2,2,2,2,2,2,19,3,3,3,3,3,3,3,3,3,3,3,3,35,3,3,52,4,4,4,68,241,241,241,241,241,241,241,241,241,241,241]
def aZE:List (Int×Int):=[(128,191),(160,191),(128,159),(144,191),(128,143),(0,0),(0,0),(0,0),(0,0),(0,0),(0,0),(0,0),(0,0),(0,0),(0,0),(0,0)]
def tabs:List (Nat×List Value):=[(0,bAF.map fun n=>.int .u8 n),(1,aZE.flatMap fun p=>[.int .u8 p.1,.int .u8 p.2])]
end Go.Am

/- The abstract machine, part 1: abstract values, what they stand for in a world, the small store of mutable objects, the frame rule. -/
namespace Go.Am
open Go

inductive Tr where
 | nil
 | node (kind n:Int) (name mark:List UInt8) (kids:List Tr)

inductive AV where
 | lit (v:Value)
 | tree (t:Tr)
 | ptr (cs:List AV)
 | slc (cs:List AV) (n:Nat) (full:Bool)
 | nslc (cs:List AV) (n:Nat) (full:Bool)
 | ref (id:Nat) (off:Nat)
 | row (id:Nat) (n:Nat)
 | fn (f:Fn) (first caps:List AV)
 | mp (id:Nat)
 | it (id:Nat)
 | agg (cs:List AV)
 | tup (cs:List AV)
 | any

abbrev Mu:=Nat→Nat→Option Value
abbrev Io:=Nat→Option (Option (Nat×Nat))

def Mu.le (m m':Mu):Prop:=∀ b o v,m b o=some v→m' b o=some v
def Io.le (i i':Io):Prop:=∀ k x,i k=some x→i' k=some x
theorem Mu.le_refl (m:Mu):m.le m:=fun _ _ _ h=>h
theorem Io.le_refl (m:Io):m.le m:=fun _ _ h=>h
theorem Mu.le_trans {a b c:Mu} (h:a.le b) (k:b.le c):a.le c:=fun x y v e=>k x y v (h x y v e)
theorem Io.le_trans {a b c:Io} (h:a.le b) (k:b.le c):a.le c:=fun x v e=>k x v (h x v e)

def pY (vs:List Value):Prop:=∀ v∈vs,v.oneCell'=true

mutual
def VT (m:Mu):Tr→Value→Prop
 | .nil,x=>x=.pointer none
 | .node k n nm mk ks,x=>∃ b o v,x=.pointer (some ⟨b,o,none⟩)∧m b o=some (.int .i64 k)∧m b (o+1)=some (.int .i64 n)∧m b (o+2)=some (.string ⟨nm.toArray⟩) ∧
   m b (o+3)=some (.string ⟨mk.toArray⟩)∧m b (o+4)=some v∧((ks=[]∧∃ a,v=.slice a 0 0)∨∃ b' o' cap,v=.slice (some ⟨b',o',none⟩) ks.length cap∧ks.length≤cap∧cap≤maxLen∧VTs m ks b' o')
def VTs (m:Mu):List Tr→Nat→Nat→Prop
 | [],_,_=>True
 | k :: ks,b,o=>(∃ v,m b o=some v∧VT m k v)∧VTs m ks b (o+1)
end

mutual
def VR (m:Mu) (i:Io):AV→Value→Prop
 | .lit v,x=>x=v
 | .tree t,x=>VT m t x
 | .ptr cs,x=>∃ b o,x=.pointer (some ⟨b,o,none⟩)∧VC m i cs b o
 | .slc cs n full,x=>(n=0∧cs=[]∧∃ a,x=.slice a 0 0) ∨
   ∃ b o cap,x=.slice (some ⟨b,o,none⟩) n cap∧n≤cap∧cap≤maxLen∧(full=true→cap=n)∧VC m i cs b o
 | .nslc cs n full,x=>(n=0∧cs=[]∧∃ a,x=.slice (some a) 0 0)∨∃ b o cap,x=.slice (some ⟨b,o,none⟩) n cap∧n≤cap∧cap≤maxLen∧(full=true→cap=n)∧VC m i cs b o
 | .ref id off,x=>∃ b c,i id=some (some (b,c))∧x=.pointer (some ⟨b,off,none⟩)
 | .row id n,x=>(i id=some none∧n=0∧x=.slice none 0 0)∨∃ b cap,i id=some (some (b,cap))∧n≤cap∧x=.slice (some ⟨b,0,none⟩) n cap
 | .fn f first caps,x=>∃ fs cs:List Value,x=.func f fs.toArray cs.toArray∧VL m i first fs∧VL m i caps cs
 | .mp id,x=>∃ b c,i id=some (some (b,c))∧x=.map (some b)
 | .it id,x=>∃ b c,i id=some (some (b,c))∧x=.pointer (some ⟨b,0,none⟩)
 | .agg cs,x=>∃ vs:List Value,x=.agg vs.toArray∧pY vs∧VL m i cs vs
 | .tup cs,x=>∃ vs:List Value,x=.tuple vs.toArray∧VL m i cs vs
 | .any,_=>True
def VC (m:Mu) (i:Io):List AV→Nat→Nat→Prop
 | [],_,_=>True
 | c :: cs,b,o=>(∃ v,m b o=some v∧VR m i c v)∧VC m i cs b (o+1)
def VL (m:Mu) (i:Io):List AV→List Value→Prop
 | [],vs=>vs=[]
 | c :: cs,vs=>∃ v vs',vs=v :: vs'∧VR m i c v∧VL m i cs vs'
end

mutual
theorem VT.mono {m m':Mu} (hm:m.le m'):∀ (t:Tr) (x:Value),VT m t x→VT m' t x
 | .nil,_,h=>h
 | .node k n nm mk ks,x,h=>by
  obtain ⟨b,o,v,h1,h2,h3,h4,h5,h6,h7⟩:=h
  refine ⟨b,o,v,h1,hm _ _ _ h2,hm _ _ _ h3,hm _ _ _ h4,hm _ _ _ h5,hm _ _ _ h6,?_⟩
  rcases h7 with h7 | ⟨b',o',cap,h8,h9,h10,h11⟩
  ·exact .inl h7
  ·exact .inr ⟨b',o',cap,h8,h9,h10,VTs.mono hm ks b' o' h11⟩
theorem VTs.mono {m m':Mu} (hm:m.le m'):∀ (ks:List Tr) (b o:Nat),VTs m ks b o→VTs m' ks b o
 | [],_,_,_=>trivial
 | k :: ks,b,o,⟨⟨v,h1,h2⟩,h3⟩=>⟨⟨v,hm _ _ _ h1,VT.mono hm k v h2⟩,VTs.mono hm ks b (o+1) h3⟩
end

mutual
theorem VR.mono {m m':Mu} {i i':Io} (hm:m.le m') (hi:i.le i'):∀ (a:AV) (x:Value),VR m i a x→VR m' i' a x
 | .lit v,x,h=>h
 | .tree t,x,h=>VT.mono hm t x h
 | .ptr cs,x,h=>by
  obtain ⟨b,o,h1,h2⟩:=h
  exact ⟨b,o,h1,VC.mono hm hi cs b o h2⟩
 | .slc cs n full,x,h=>by
  rcases h with h | ⟨b,o,cap,h1,h2,h2',h3,h4⟩
  ·exact .inl h
  ·exact .inr ⟨b,o,cap,h1,h2,h2',h3,VC.mono hm hi cs b o h4⟩
 | .nslc cs n full,x,h=>by
  rcases h with h | ⟨b,o,cap,h1,h2,h2',h3,h4⟩
  ·exact .inl h
  ·exact .inr ⟨b,o,cap,h1,h2,h2',h3,VC.mono hm hi cs b o h4⟩
 | .ref id off,x,h=>by
  obtain ⟨b,c,h1,h2⟩:=h
  exact ⟨b,c,hi _ _ h1,h2⟩
 | .row id n,x,h=>by
  rcases h with ⟨h1,h2⟩ | ⟨b,cap,h1,h2⟩
  ·exact .inl ⟨hi _ _ h1,h2⟩
  ·exact .inr ⟨b,cap,hi _ _ h1,h2⟩
 | .fn f first caps,x,h=>by
  obtain ⟨fs,cs,h1,h2,h3⟩:=h
  exact ⟨fs,cs,h1,VL.mono hm hi first fs h2,VL.mono hm hi caps cs h3⟩
 | .mp id,x,h=>by
  obtain ⟨b,c,h1,h2⟩:=h
  exact ⟨b,c,hi _ _ h1,h2⟩
 | .it id,x,h=>by
  obtain ⟨b,c,h1,h2⟩:=h
  exact ⟨b,c,hi _ _ h1,h2⟩
 | .agg cs,x,h=>by
  obtain ⟨vs,h1,h0,h2⟩:=h
  exact ⟨vs,h1,h0,VL.mono hm hi cs vs h2⟩
 | .tup cs,x,h=>by
  obtain ⟨vs,h1,h2⟩:=h
  exact ⟨vs,h1,VL.mono hm hi cs vs h2⟩
 | .any,_,_=>trivial
theorem VC.mono {m m':Mu} {i i':Io} (hm:m.le m') (hi:i.le i'):∀ (cs:List AV) (b o:Nat),VC m i cs b o→VC m' i' cs b o
 | [],_,_,_=>trivial
 | c :: cs,b,o,⟨⟨v,h1,h2⟩,h3⟩=>⟨⟨v,hm _ _ _ h1,VR.mono hm hi c v h2⟩,VC.mono hm hi cs b (o+1) h3⟩
theorem VL.mono {m m':Mu} {i i':Io} (hm:m.le m') (hi:i.le i'):∀ (cs:List AV) (vs:List Value),VL m i cs vs→VL m' i' cs vs
 | [],_,h=>h
 | c :: cs,_vs,⟨v,vs',h1,h2,h3⟩=>⟨v,vs',h1,VR.mono hm hi c v h2,VL.mono hm hi cs vs' h3⟩
end

inductive Ob where
 | row (e:TypeId) (sz:Nat) (cs:List AV) (fz:Nat)
 | map (es:List (Value×AV))
 | iter (s:ByteArray) (pos:Nat)
 | glob (b:Nat) (cs:List AV)

abbrev aN:=List (Nat×Ob)

def blk (i:Io) (id:Nat):Option Nat:=match i id with | some (some (b,_))=>some b | _=>none

def EL (m:Mu) (i:Io):List (Value×AV)→List MapEntry→Prop
 | [],l=>l=[]
 | p :: es,l=>∃ e l',l=e :: l'∧e.key=p.1∧VR m i p.2 e.val∧EL m i es l'

theorem EL.mono {m m':Mu} {i i':Io} (hm:m.le m') (hi:i.le i'):∀ (es:List (Value×AV)) (l:List MapEntry),EL m i es l→EL m' i' es l
 | [],_,h=>h
 | _p :: es,_l,⟨e,l',h1,h2,h3,h4⟩=>⟨e,l',h1,h2,VR.mono hm hi _ _ h3,EL.mono hm hi es l' h4⟩

def OR (w:World) (m:Mu) (i:Io) (id:Nat):Ob→Prop
 | .row e sz cs fz=>(i id=some none∧cs=[]∧fz=0) ∨
   ∃ b cap vs,i id=some (some (b,cap))∧w.heap[b]?=some (.cells vs e (0,0))∧vs.size=cap * sz∧cap≤maxLen∧cs.length≤vs.size∧fz≤cs.length∧pY (vs.toList.take cs.length) ∧
    VL m i cs (vs.toList.take cs.length)∧(∀ o,o<fz→m b o=vs[o]?)∧(∀ o,fz≤o→m b o=none)
 | .map es=>∃ b c ces clock,i id=some (some (b,c))∧w.heap[b]?=some (.map ces clock)∧EL m i es ces.toList
 | .iter s pos=>∃ b c,i id=some (some (b,c))∧w.heap[b]?=some (.stringIter s pos)
 | .glob b cs=>i id=some none∧VC m i cs b 0

def apart (i:Io) (p q:Nat×Ob):Prop:=p.1≠q.1∧∀ b,blk i p.1=some b→blk i q.1≠some b

def lkN {α:Type}:List (Nat×α)→Nat→Option α
 | [],_=>none
 | (k,v) :: l,x=>if Nat.beq x k then some v else lkN l x
def Tab (b o:Nat):Option Value:=(lkN tabs b).bind fun l=>l[o]?

structure nX (w:World) (m:Mu) (i:Io) (s:aN):Prop where
 mu:∀ b o v,m b o=some v→w.cell? ⟨b,o,none⟩=some v∧v.oneCell'=true
 obj:∀ p∈s,OR w m i p.1 p.2
 apart:s.Pairwise (apart i)
 fin:∃ N,∀ k,N≤k→i k=none
 tab:∀ b o v,Tab b o=some v→m b o=some v

theorem apart.symm {i:Io} {p q:Nat×Ob} (h:apart i p q):apart i q p:=⟨h.1.symm,fun b hb hp=>h.2 b hp hb⟩

theorem OR.id {w:World} {m:Mu} {i:Io} {id:Nat} {o:Ob} (h:OR w m i id o):∃ x,i id=some x:=by
 cases o with
 | row e sz cs fz =>
  rcases h with ⟨h,_⟩ | ⟨b,cap,vs,h,_⟩
  ·exact ⟨_,h⟩
  ·exact ⟨_,h⟩
 | map es=>obtain ⟨b,c,ces,clock,h,_⟩:=h; exact ⟨_,h⟩
 | iter s pos=>obtain ⟨b,c,h,_⟩:=h; exact ⟨_,h⟩
 | glob b cs=>exact ⟨_,h.1⟩

theorem OR.lt {w:World} {m:Mu} {i:Io} {id:Nat} {o:Ob} (h:OR w m i id o) {b:Nat} (hb:blk i id=some b):b<w.heap.size:=by
 have get:∀ {b:Nat} {x:Go.Obj},w.heap[b]?=some x→b<w.heap.size:=fun h=>(Array.getElem?_eq_some_iff.1 h).1
 cases o with
 | row e sz cs fz =>
  rcases h with ⟨h,_⟩ | ⟨b',cap,vs,h,h2,_⟩
  ·simp [blk,h] at hb
  ·simp [blk,h] at hb; subst hb; exact get h2
 | map es=>obtain ⟨b',c,ces,clock,h,h2,_⟩:=h; simp [blk,h] at hb; subst hb; exact get h2
 | iter s pos=>obtain ⟨b',c,h,h2⟩:=h; simp [blk,h] at hb; subst hb; exact get h2
 | glob b' cs=>simp [blk,h.1] at hb

def owns (i:Io) (s:aN) (b:Nat):Prop:=∃ p∈s,blk i p.1=some b

structure Step (w:World) (m:Mu) (i:Io) (s:aN) (w':World) (m':Mu) (i':Io) (s':aN):Prop where
 os:w'.os=w.os
 tape:w'.tape=w.tape
 output:w'.output=w.output
 size:w.heap.size≤w'.heap.size
 mu:m.le m'
 io:i.le i'
 block:∀ b,b<w.heap.size→¬ owns i s b→w'.heap[b]?=w.heap[b]?
 mu':∀ b,b<w.heap.size→¬ owns i s b→∀ o,m' b o=m b o
 ids:∀ p∈s',(∃ q∈s,q.1=p.1)∨i p.1=none
 blks:∀ b,owns i' s' b→owns i s b∨w.heap.size≤b

theorem aKn {i i':Io} (h:i.le i') {k:Nat} {x} (hk:i k=some x):blk i' k=blk i k:=by
 unfold blk; rw [h _ _ hk,hk]

theorem Step.refl (w:World) (m:Mu) (i:Io) (s:aN):Step w m i s w m i s :=
 ⟨rfl,rfl,rfl,Nat.le_refl _,Mu.le_refl _,Io.le_refl _,fun _ _ _=>rfl,fun _ _ _ _=>rfl,fun p hp=>.inl ⟨p,hp,rfl⟩,fun _ h=>.inl h⟩

theorem Step.trans {w m i s w1 m1 i1 s1 w2 m2 i2 s2} (h:Step w m i s w1 m1 i1 s1) (k:Step w1 m1 i1 s1 w2 m2 i2 s2):Step w m i s w2 m2 i2 s2 where
 os:=k.os.trans h.os
 tape:=k.tape.trans h.tape
 output:=k.output.trans h.output
 size:=Nat.le_trans h.size k.size
 mu:=Mu.le_trans h.mu k.mu
 io:=Io.le_trans h.io k.io
 block b hb ho:=by
  have hn:¬ owns i1 s1 b:=fun hh=>by
   rcases h.blks b hh with h1 | h1
   ·exact ho h1
   ·omega
  rw [k.block b (Nat.lt_of_lt_of_le hb h.size) hn,h.block b hb ho]
 mu' b hb ho o:=by
  have hn:¬ owns i1 s1 b:=fun hh=>by
   rcases h.blks b hh with h1 | h1
   ·exact ho h1
   ·omega
  rw [k.mu' b (Nat.lt_of_lt_of_le hb h.size) hn,h.mu' b hb ho]
 ids p hp:=by
  rcases k.ids p hp with ⟨q,hq,e⟩ | e
  ·rcases h.ids q hq with ⟨r,hr,e'⟩ | e'
   ·exact .inl ⟨r,hr,e'.trans e⟩
   ·exact .inr (e ▸ e')
  ·refine .inr ?_
   cases hk:i p.1 with
   | none=>rfl
   | some x=>rw [h.io _ _ hk] at e; cases e
 blks b hb:=by
  rcases k.blks b hb with h1 | h1
  ·exact h.blks b h1
  ·exact .inr (Nat.le_trans h.size h1)

theorem OR.mono_block {w w':World} {m m':Mu} {i i':Io} (hm:m.le m') (hi:i.le i') {id:Nat} {o:Ob} (h:OR w m i id o)
  (hb:∀ b,blk i id=some b→w'.heap[b]?=w.heap[b]?) (hmu:∀ b,blk i id=some b→∀ o,m' b o=m b o):OR w' m' i' id o:=by
 cases o with
 | row e sz cs fz =>
  rcases h with ⟨h,h2⟩ | ⟨b,cap,vs,h1,h2,h3,h4,h5,h6,h0,h7,h8,h9⟩
  ·exact .inl ⟨hi _ _ h,h2⟩
  ·have hbb:blk i id=some b:=by simp [blk,h1]
   exact .inr ⟨b,cap,vs,hi _ _ h1,(hb b hbb).trans h2,h3,h4,h5,h6,h0,VL.mono hm hi _ _ h7,fun o ho=>(hmu b hbb o).trans (h8 o ho),fun o ho=>(hmu b hbb o).trans (h9 o ho)⟩
 | map es =>
  obtain ⟨b,c,ces,clock,h1,h2,h3⟩:=h
  have hbb:blk i id=some b:=by simp [blk,h1]
  exact ⟨b,c,ces,clock,hi _ _ h1,(hb b hbb).trans h2,EL.mono hm hi _ _ h3⟩
 | iter s pos =>
  obtain ⟨b,c,h1,h2⟩:=h
  have hbb:blk i id=some b:=by simp [blk,h1]
  exact ⟨b,c,hi _ _ h1,(hb b hbb).trans h2⟩
 | glob b cs=>exact ⟨hi _ _ h.1,VC.mono hm hi _ _ _ h.2⟩

theorem nX.sub {w m i s t} (h:nX w m i s) (hs:t.Sublist s):nX w m i t :=
 ⟨h.mu,fun p hp=>h.obj p (hs.subset hp),h.apart.sublist hs,h.fin,h.tab⟩

theorem nX.perm {w m i} {s t:aN} (h:nX w m i s) (hp:s.Perm t):nX w m i t :=
 ⟨h.mu,fun p hq=>h.obj p (hp.mem_iff.2 hq),(hp.pairwise_iff (fun h=>apart.symm h)).1 h.apart,h.fin,h.tab⟩

theorem aL4 {i:Io} {s t:aN} (hp:s.Perm t) {b:Nat}:owns i s b↔owns i t b :=
 ⟨fun ⟨p,h,e⟩=>⟨p,hp.mem_iff.1 h,e⟩,fun ⟨p,h,e⟩=>⟨p,hp.mem_iff.2 h,e⟩⟩

theorem nX.frame {w m i} {s t:aN} {w' m' i' s'} (h:nX w m i (s++t)) (k:Step w m i s w' m' i' s') (r:nX w' m' i' s') :
  nX w' m' i' (s'++t)∧Step w m i (s++t) w' m' i' (s'++t):=by
 have hap:=List.pairwise_append.1 h.apart
 have hnot:∀ q∈t,∀ b,blk i q.1=some b→¬ owns i s b:=fun q hq b hb ⟨p,hp,e⟩=>(hap.2.2 p hp q hq).2 b e hb
 have hq:∀ q∈t,OR w' m' i' q.1 q.2:=fun q hq=>by
  have ho:=h.obj q (List.mem_append_right _ hq)
  exact ho.mono_block k.mu k.io (fun b hb=>k.block b (ho.lt hb) (hnot q hq b hb)) (fun b hb=>k.mu' b (ho.lt hb) (hnot q hq b hb))
 refine ⟨⟨r.mu,fun p hp=>?_,?_,r.fin,r.tab⟩,?_⟩
 ·rcases List.mem_append.1 hp with h1 | h1
  ·exact r.obj p h1
  ·exact hq p h1
 ·refine List.pairwise_append.2 ⟨r.apart,?_,?_⟩
  ·refine hap.2.1.imp_of_mem ?_
   intro p q hp hq' hpq
   obtain ⟨x,hx⟩:=(h.obj p (List.mem_append_right _ hp)).id
   obtain ⟨y,hy⟩:=(h.obj q (List.mem_append_right _ hq')).id
   exact ⟨hpq.1,fun b hb=>by rw [aKn k.io hx] at hb; rw [aKn k.io hy]; exact hpq.2 b hb⟩
  ·intro p hp q hq'
   obtain ⟨y,hy⟩:=(h.obj q (List.mem_append_right _ hq')).id
   refine ⟨fun e=>?_,fun b hb hbq=>?_⟩
   ·rcases k.ids p hp with ⟨r0,hr,e'⟩ | e'
    ·exact (hap.2.2 r0 hr q hq').1 (e'.trans e)
    ·rw [e,hy] at e'; cases e'
   ·rw [aKn k.io hy] at hbq
    rcases k.blks b ⟨p,hp,hb⟩ with h1 | h1
    ·exact hnot q hq' b hbq h1
    ·have:=(h.obj q (List.mem_append_right _ hq')).lt hbq; omega
 ·refine ⟨k.os,k.tape,k.output,k.size,k.mu,k.io,fun b hb ho=>k.block b hb fun ⟨p,hp,e⟩=>ho ⟨p,List.mem_append_left _ hp,e⟩,
   fun b hb ho=>k.mu' b hb fun ⟨p,hp,e⟩=>ho ⟨p,List.mem_append_left _ hp,e⟩,fun p hp=>?_,fun b ⟨p,hp,e⟩=>?_⟩
  ·rcases List.mem_append.1 hp with h1 | h1
   ·rcases k.ids p h1 with ⟨q,hq1,e⟩ | e
    ·exact .inl ⟨q,List.mem_append_left _ hq1,e⟩
    ·exact .inr e
   ·exact .inl ⟨p,List.mem_append_right _ h1,rfl⟩
  ·rcases List.mem_append.1 hp with h1 | h1
   ·rcases k.blks b ⟨p,h1,e⟩ with ⟨q,hq1,e'⟩ | h2
    ·exact .inl ⟨q,List.mem_append_left _ hq1,e'⟩
    ·exact .inr h2
   ·obtain ⟨y,hy⟩:=(h.obj p (List.mem_append_right _ h1)).id
    rw [aKn k.io hy] at e
    exact .inl ⟨p,List.mem_append_right _ h1,e⟩

theorem Step.perm {w m i} {s t:aN} {w' m' i' s' t'} (h:Step w m i s w' m' i' s') (hp:s.Perm t) (hq:s'.Perm t'):Step w m i t w' m' i' t' :=
 ⟨h.os,h.tape,h.output,h.size,h.mu,h.io,fun b hb ho=>h.block b hb fun hh=>ho ((aL4 hp).1 hh),fun b hb ho=>h.mu' b hb fun hh=>ho ((aL4 hp).1 hh),
  fun p hpp=>by
   rcases h.ids p (hq.mem_iff.2 hpp) with ⟨q,h1,e⟩ | e
   ·exact .inl ⟨q,hp.mem_iff.1 h1,e⟩
   ·exact .inr e,
  fun b hb=>by
   rcases h.blks b ((aL4 hq).2 hb) with h1 | h1
   ·exact .inl ((aL4 hp).1 h1)
   ·exact .inr h1⟩

theorem Step.forget {w m i} {s:aN} {w' m' i' s' t'} (h:Step w m i s w' m' i' s') (hq:∀ p∈t',p∈s'):Step w m i s w' m' i' t' :=
 ⟨h.os,h.tape,h.output,h.size,h.mu,h.io,h.block,h.mu',fun p hp=>h.ids p (hq p hp),fun b ⟨p,hp,e⟩=>h.blks b ⟨p,hq p hp,e⟩⟩

end Go.Am

/- The abstract machine, part 2: what is said of a call, of an operation, of a piece of code; the rules of code. -/
namespace Go.Am
open Go

abbrev mA:=Nat→AV
def mA.put (t:mA) (d:Option Nat) (v:AV):mA :=
 match d with
 | some d=>fun k=>if Nat.beq k d then v else t k
 | none=>t
abbrev AV.ofConst (v:Value):AV:=.lit v
def ev (t:mA):Operand→AV
 | .tmp k=>t k
 | .const v=>AV.ofConst v
 | .func f=>.fn (.func f) [] []
 | .global _=>.any

theorem fN {k d:Nat} (h:k≠d):Nat.beq k d=false:=by
 cases hh:Nat.beq k d with
 | false=>rfl
 | true=>exact absurd (Nat.eq_of_beq_eq_true hh) h
theorem eB (k:Nat):Nat.beq k k=true:=Nat.beq_refl k

def TR (m:Mu) (i:Io) (t:mA) (a:Act):Prop:=∀ k,VR m i (t k) (a.tmps.getD k undef)

theorem VR.ofConst {m:Mu} {i:Io} (v:Value):VR m i (AV.ofConst v) v:=by
 rfl

theorem VR.ev {m:Mu} {i:Io} {t:mA} {a:Act} (x:Operand) (h:∀ k,x=.tmp k→VR m i (t k) (a.tmps.getD k undef)):VR m i (ev t x) (a.eval x):=by
 cases x with
 | tmp k=>exact h k rfl
 | const v=>exact VR.ofConst v
 | global g=>exact trivial
 | func f=>exact ⟨[],[],rfl,rfl,rfl⟩

theorem TR.mono {m m':Mu} {i i':Io} (hm:m.le m') (hi:i.le i') {t:mA} {a:Act} (h:TR m i t a):TR m' i' t a:=fun k=>VR.mono hm hi _ _ (h k)

theorem TR.put {m:Mu} {i:Io} {t:mA} {a:Act} {d:Option Nat} {v:AV} {x:Value} (h:TR m i t a) (hd:∀ k,d=some k→k<a.tmps.size) (hv:VR m i v x) :
  TR m i (t.put d v) (a.put d x):=by
 intro k
 cases d with
 | none=>exact h k
 | some d =>
  have hlt:=hd d rfl
  simp only [mA.put,Act.put]
  by_cases e:k=d
  ·subst e
   rw [eB,if_pos rfl]
   rw [Array.getD_eq_getD_getElem?,Array.getElem?_setIfInBounds_self_of_lt hlt]
   exact hv
  ·have:=h k
   rw [fN e,if_neg (by simp)]
   rw [show (a.tmps.setIfInBounds d x).getD k undef=a.tmps.getD k undef from by rw [Array.getD_eq_getD_getElem?,Array.getD_eq_getD_getElem?,Array.getElem?_setIfInBounds_ne (Ne.symm e)]]
   exact this

def lO (P:Program) (f:FuncId) (args:List AV) (s:aN) (Q:AV→aN→Prop):Prop :=
 ∀ w m i (cargs:List Value),nX w m i s→VL m i args cargs →
  Calls P f cargs.toArray w fun e w'=>∃ v av s' m' i',e=.returned v∧Q av s'∧VR m' i' av v∧nX w' m' i' s'∧Step w m i s w' m' i' s'

def sP (P:Program) (o:Oper) (t:mA) (s:aN) (R:AV→aN→Prop):Prop :=
 ∀ (a:Act) (w:World) (m:Mu) (i:Io),nX w m i s→(∀ k,Operand.tmp k∈o.op.operands→VR m i (t k) (a.tmps.getD k undef)) →
  ∀ (K:Act→World→Prop) (Q:Exit→Act→World→Prop),
   (∀ v w' av s' m' i',R av s'→VR m' i' av v→nX w' m' i' s'→Step w m i s w' m' i' s'→K (a.put o.dst v) w')→o.wp P a w K Q

abbrev lZ:=Exit→mA→aN→Prop
def Conc (n:Nat) (w:World) (m:Mu) (i:Io) (s:aN) (Q:lZ):Exit→Act→World→Prop :=
 fun e a' w'=>∃ t' s' m' i',Q e t' s'∧TR m' i' t' a'∧a'.tmps.size=n∧a'.defers=[]∧nX w' m' i' s'∧Step w m i s w' m' i' s'

def AWp (P:Program) (n:Nat) (c:Code) (Q:lZ) (t:mA) (s:aN):Prop :=
 ∀ (a:Act) (w:World) (m:Mu) (i:Io),nX w m i s→TR m i t a→a.tmps.size=n→a.defers=[]→c.wp P (Conc n w m i s Q) a w

theorem Conc.after {n w m i s w1 m1 i1 s1} {Q:lZ} {e a' w'} (h:Step w m i s w1 m1 i1 s1) (k:Conc n w1 m1 i1 s1 Q e a' w'):Conc n w m i s Q e a' w':=by
 obtain ⟨t',s',m',i',h1,h2,h3,h4,h5,h6⟩:=k
 exact ⟨t',s',m',i',h1,h2,h3,h4,h5,h.trans h6⟩

section
variable {P:Program} {n:Nat} {t:mA} {s:aN}

theorem AWp.mono {c:Code} {Q Q':lZ} (h:AWp P n c Q t s) (hq:∀ e t s,Q e t s→Q' e t s):AWp P n c Q' t s :=
 fun a w m i h1 h2 h3 h4=>wp_mono (h a w m i h1 h2 h3 h4) fun _ _ _ ⟨t',s',m',i',q,r⟩=>⟨t',s',m',i',hq _ _ _ q,r⟩

def aVS (K:mA→aN→Prop) (Q:lZ):lZ
 | .normal,t,s=>K t s
 | e,t,s=>Q e t s

theorem kO {x y:Code} {Q:lZ} (h:AWp P n x (aVS (AWp P n y Q) Q) t s):AWp P n (.seq x y) Q t s:=by
 intro a w m i h1 h2 h3 h4
 refine wp_seq (wp_mono (h a w m i h1 h2 h3 h4) ?_)
 intro e a' w' ⟨t',s',m',i',q,r2,r3,r4,r5,r6⟩
 cases e with
 | normal=>exact wp_mono (q a' w' m' i' r5 r2 r3 r4) fun e a'' w'' hc=>Conc.after r6 hc
 | _=>exact ⟨t',s',m',i',q,r2,r3,r4,r5,r6⟩

def aTJ (id:Nat) (Q:lZ):lZ
 | .exit k,t,s=>if Nat.beq k id then Q .normal t s else Q (.exit k) t s
 | e,t,s=>Q e t s

theorem aUA {id:Nat} {x:Code} {Q:lZ} (h:AWp P n x (aTJ id Q) t s):AWp P n (.block id x) Q t s:=by
 intro a w m i h1 h2 h3 h4
 refine wp_block (wp_mono (h a w m i h1 h2 h3 h4) ?_)
 intro e a' w' ⟨t',s',m',i',q,r⟩
 cases e with
 | exit k =>
  simp only [Exit.inBlock]
  by_cases hk:k=id
  ·subst hk; rw [if_pos rfl]; exact ⟨t',s',m',i',by simpa [aTJ,eB] using q,r⟩
  ·rw [if_neg hk]; exact ⟨t',s',m',i',by simpa [aTJ,fN hk] using q,r⟩
 | _=>exact ⟨t',s',m',i',q,r⟩

theorem bAz {c:Code} {Q:lZ} {e:Exit} (hc:∀ {Q:Exit→Act→World→Prop} {a w},Q e a w→c.wp P Q a w) (h:Q e t s):AWp P n c Q t s :=
 fun _a _w m i h1 h2 h3 h4=>hc ⟨t,s,m,i,h,h2,h3,h4,h1,Step.refl _ _ _ _⟩

theorem bAO {id:Nat} {Q:lZ} (h:Q (.exit id) t s):AWp P n (.exit id) Q t s:=bAz (fun h=>wp_exit h) h
theorem aSy {Q:lZ} (h:Q .normal t s):AWp P n .skip Q t s:=bAz (fun h=>wp_skip h) h
theorem aLo {Q:lZ} (h:Q .ret t s):AWp P n .ret Q t s:=bAz (fun h=>wp_ret h) h

theorem aO7 {c:Operand} {x y:Code} {Q:lZ} (b:Bool) (hc:ev t c=.lit (.bool b)) (ht:b=true→AWp P n x Q t s) (hf:b=false→AWp P n y Q t s) :
  AWp P n (.cond c x y) Q t s:=by
 intro a w m i h1 h2 h3 h4
 have hv:=VR.ev (m:=m) (i:=i) (t:=t) (a:=a) c (fun k _=>h2 k)
 rw [hc] at hv
 refine wp_cond_split (t:=b) hv (fun hb=>ht hb a w m i h1 h2 h3 h4) (fun hb=>hf hb a w m i h1 h2 h3 h4)

def aGN (P:Program) (n:Nat) (c:Code) (Q:lZ):Nat→mA→aN→Prop
 | 0,_,_=>False
 | k+1,t,s=>AWp P n c (aVS (aGN P n c Q k) Q) t s

theorem aXi {c:Code} {Q:lZ} (k:Nat) (h:aGN P n c Q k t s):AWp P n (.loop c) Q t s:=by
 intro a w m i h1 h2 h3 h4
 refine wp_loop_rounds k ?_
 induction k generalizing t s a w m i with
 | zero=>exact h.elim
 | succ k ih =>
  rw [rounds_succ]
  refine wp_mono (h a w m i h1 h2 h3 h4) ?_
  intro e a' w' ⟨t',s',m',i',q,r2,r3,r4,r5,r6⟩
  cases e with
  | normal =>
   have:=ih q a' w' m' i' r5 r2 r3 r4
   have conv:∀ (j:Nat) (a'':Act) (w'':World),Code.rounds P c (Conc n w' m' i' s' Q) j a'' w''→Code.rounds P c (Conc n w m i s Q) j a'' w'':=by
    intro j
    induction j with
    | zero=>exact fun _ _ h=>h
    | succ j ihj =>
     intro a'' w'' hh
     rw [rounds_succ] at hh ⊢
     refine wp_mono hh ?_
     intro e a3 w3 h3
     cases e with
     | normal=>exact ihj a3 w3 h3
     | _=>exact Conc.after r6 h3
   exact conv _ _ _ this
  | _=>exact ⟨t',s',m',i',q,r2,r3,r4,r5,r6⟩

def iQ (t:mA) (s:aN) (t':mA) (s':aN):Prop :=
 ∀ w m i a,nX w m i s→TR m i t a→∃ m' i',nX w m' i' s'∧TR m' i' t' a∧Step w m i s w m' i' s'

theorem aKL {c:Code} {Q:lZ} {t':mA} {s':aN} (h:iQ t s t' s') (k:AWp P n c Q t' s'):AWp P n c Q t s:=by
 intro a w m i h1 h2 h3 h4
 obtain ⟨m',i',r1,r2,r3⟩:=h w m i a h1 h2
 exact wp_mono (k a w m' i' r1 r2 h3 h4) fun e a' w' hc=>Conc.after r3 hc

/-! ### regions -/
def aXp (P:Program) (n:Nat) (ops:Array Oper) (l:List Oper) (Q:mA→aN→Prop) (t:mA) (s:aN):Prop :=
 ∀ (a:Act) (w:World) (m:Mu) (i:Io),nX w m i s→TR m i t a→a.tmps.size=n→a.defers=[] →
  ∀ (w0:World) (m0:Mu) (i0:Io) (s0:aN) (Q':lZ),(∀ t s,Q t s→Q' .normal t s)→Step w0 m0 i0 s0 w m i s→wpList P ops (Conc n w0 m0 i0 s0 Q') l a w

theorem bEk {ops:Array Oper} {Q:mA→aN→Prop} (h:Q t s):aXp P n ops [] Q t s :=
 fun _a _w m i h1 h2 h3 h4 _w0 _m0 _i0 _s0 _Q' hq hs=>⟨t,s,m,i,hq _ _ h,h2,h3,h4,h1,hs⟩

theorem size_put {a:Act} {d:Option Tmp} {v:Value}:(a.put d v).tmps.size=a.tmps.size:=by cases d <;> simp [Act.put]
theorem aAr {a:Act} {d:Option Tmp} {v:Value}:(a.put d v).defers=a.defers:=by cases d <;> simp [Act.put]

def inB (d:Option Nat) (n:Nat):Bool:=match d with | some d=>Nat.blt d n | none=>true
theorem aN6 {d:Option Nat} {n:Nat} (h:inB d n=true):∀ k,d=some k→k<n:=by
 intro k hk; subst hk; simpa [inB] using h

/-! ### entering a function -/
def aLZ (args:List AV):mA:=fun k=>(args[k]?).getD .any

theorem VL.length {m:Mu} {i:Io}:∀ {cs:List AV} {vs:List Value},VL m i cs vs→vs.length=cs.length
 | [],_,h=>by rw [h]; rfl
 | c :: cs,_,⟨v,vs',h1,_,h3⟩=>by rw [h1]; simp [VL.length h3]

theorem VL.get {m:Mu} {i:Io}:∀ {cs:List AV} {vs:List Value},VL m i cs vs→∀ (k:Nat) (c:AV),cs[k]?=some c→∃ v,vs[k]?=some v∧VR m i c v
 | [],_,_,k,c,h=>by simp at h
 | c0 :: cs,_,⟨v,vs',h1,h2,h3⟩,k,c,h=>by
  subst h1
  cases k with
  | zero=>simp at h; subst h; exact ⟨v,rfl,h2⟩
  | succ k=>simp at h; obtain ⟨u,h4,h5⟩:=VL.get h3 k c h; exact ⟨u,by simpa using h4,h5⟩

def bDU (fn:Func) (t:mA):Option AV :=
 match fn.results.toList with
 | [.tmp k]=>some (t k)
 | []=>some (.tup [])
 | [.tmp k,.tmp j]=>some (.tup [t k,t j])
 | [.tmp k,.tmp j,.tmp l]=>some (.tup [t k,t j,t l])
 | [.tmp k,.tmp j,.tmp l,.tmp l2]=>some (.tup [t k,t j,t l,t l2])
 | _=>none

def jS (x y:AV):Prop:=∀ m i v,VR m i x v→VR m i y v
theorem jS.refl (x:AV):jS x x:=fun _ _ _ h=>h

def eM (s:aN) (x y:AV):Prop:=∀ w m i v,nX w m i s→VR m i x v→VR m i y v
theorem eM.of_weak {x y:AV} (h:jS x y):eM s x y:=fun _ _ _ _ _ hv=>h _ _ _ hv
theorem eM.refl (x:AV):eM s x x:=fun _ _ _ _ _ h=>h
theorem eM.trans {x y z:AV} (h:eM s x y) (k:eM s y z):eM s x z:=fun w m i v hr hv=>k w m i v hr (h w m i v hr hv)

def bEr (P:Program) (fn:Func) (t:mA) (s:aN) (x:AV):Prop :=
 ∀ w m i (a:Act),nX w m i s→TR m i t a→∃ v,(results fn a.tmps).run P w=.ok v w∧VR m i x v

def bJh (P:Program) (fn:Func) (Q:AV→aN→Prop):lZ
 | .normal,t,s | .ret,t,s=>∃ x av s',bEr P fn t s x∧eM s x av∧(∃ s1:aN,s.Perm s1∧s'.Sublist s1)∧Q av s'
 | _,_,_=>False

theorem bCe {fn:Func} {t:mA} {x:AV} (h:bDU fn t=some x) {m:Mu} {i:Io} {a:Act} (ht:TR m i t a) (w:World) :
  ∃ v,(results fn a.tmps).run P w=.ok v w∧VR m i x v:=by
 unfold bDU at h
 split at h
 ·rename_i k hl
  have hr:fn.results=#[.tmp k]:=by rw [← Array.toArray_toList (xs:=fn.results),hl]
  cases h
  exact ⟨_,results_tmp hr _ _ _,ht k⟩
 ·rename_i hl
  have hr:fn.results=#[]:=by rw [← Array.toArray_toList (xs:=fn.results),hl]
  cases h
  exact ⟨_,results_none hr _ _ _,[],rfl,rfl⟩
 ·rename_i k j hl
  have hr:fn.results=#[.tmp k,.tmp j]:=by rw [← Array.toArray_toList (xs:=fn.results),hl]
  cases h
  exact ⟨_,results_tmp2 hr _ _ _,[_,_],rfl,_,_,rfl,ht k,_,_,rfl,ht j,rfl⟩
 ·rename_i k j l hl
  have hr:fn.results=#[.tmp k,.tmp j,.tmp l]:=by rw [← Array.toArray_toList (xs:=fn.results),hl]
  cases h
  refine ⟨.tuple #[a.tmps.getD k undef,a.tmps.getD j undef,a.tmps.getD l undef],by simp [results,hr],[_,_,_],rfl,_,_,rfl,ht k,_,_,rfl,ht j,_,_,rfl,ht l,rfl⟩
 ·rename_i k j l l2 hl
  have hr:fn.results=#[.tmp k,.tmp j,.tmp l,.tmp l2]:=by rw [← Array.toArray_toList (xs:=fn.results),hl]
  cases h
  refine ⟨.tuple #[a.tmps.getD k undef,a.tmps.getD j undef,a.tmps.getD l undef,a.tmps.getD l2 undef],by simp [results,hr],[_,_,_,_],rfl,_,_,rfl,ht k,_,_,rfl,ht j,_,_,rfl,ht l,_,_,rfl,ht l2,rfl⟩
 ·cases h

theorem aFQ {fn:Func} {t:mA} {s:aN} {x:AV} (h:bDU fn t=some x):bEr P fn t s x:=fun w _ _ _ _ ht=>bCe h ht w

def aUN (tmps:Array Value) (r:ResultVar):Sem Value :=
 match r with
 | .tmp t=>pure (tmps.getD t undef)
 | .cell a t=>do loadVar t (← asAddr (tmps.getD a undef))

theorem bAA (fn:Func) (tmps:Array Value):results fn tmps=(do
  let vs ← fn.results.mapM (aUN tmps)
  pure (if h:vs.size=1 then vs[0] else .tuple vs)):=rfl

def aTf (P:Program) (t:mA) (s:aN) (r:ResultVar) (x:AV):Prop :=
 ∀ w m i (a:Act),nX w m i s→TR m i t a→∃ v,(aUN a.tmps r).run P w=.ok v w∧VR m i x v

theorem bCI {t:mA} {s:aN} {k:Nat} {x:AV} (h:t k=x):aTf P t s (.tmp k) x:=fun _w _m _i _a _ ht=>⟨_,rfl,h ▸ ht k⟩

theorem aBI {f:FuncId} {fn:Func} {c:Code} {args:List AV} {Q:AV→aN→Prop} (hf:P.funcs[f]?=some fn) (hb:fn.body=some c) (hn:Nat.ble args.length fn.ntmps=true)
  (h:AWp P fn.ntmps c (bJh P fn Q) (aLZ args) s):lO P f args s Q:=by
 intro w m i cargs h1 h2
 have hlen:=VL.length h2
 have hn':args.length≤fn.ntmps:=by simpa using hn
 refine calls_of_wp hf hb (wp_mono (h _ w m i h1 ?_ ?_ rfl) ?_)
 ·intro k
  simp only [aLZ]
  cases hk:args[k]? with
  | none=>exact trivial
  | some c =>
   obtain ⟨v,h3,h4⟩:=VL.get h2 k c hk
   have hlt:k<cargs.length:=(List.getElem?_eq_some_iff.1 h3).1
   have:(cargs.toArray++Array.replicate (fn.ntmps - cargs.toArray.size) undef).getD k undef=v:=by
    rw [Array.getD_eq_getD_getElem?,Array.getElem?_append_left (by simpa using hlt)]
    simp [h3]
   rw [this]; exact h4
 ·simp; omega
 ·intro e a' w' ⟨t',s',m',i',q,r2,r3,r4,r5,r6⟩
  cases e with
  | normal =>
   obtain ⟨x,av,s2,q1,q2,⟨s1,q5,q3⟩,q4⟩:=q
   obtain ⟨v,hv,hx⟩:=q1 w' m' i' a' r5 r2
   exact ⟨r4,v,hv,v,av,s2,m',i',rfl,q4,q2 _ _ _ _ r5 hx,(r5.perm q5).sub q3,(r6.perm (List.Perm.refl _) q5).forget fun p hp=>q3.subset hp⟩
  | ret =>
   obtain ⟨x,av,s2,q1,q2,⟨s1,q5,q3⟩,q4⟩:=q
   obtain ⟨v,hv,hx⟩:=q1 w' m' i' a' r5 r2
   exact ⟨r4,v,hv,v,av,s2,m',i',rfl,q4,q2 _ _ _ _ r5 hx,(r5.perm q5).sub q3,(r6.perm (List.Perm.refl _) q5).forget fun p hp=>q3.subset hp⟩
  | _=>exact q.elim

theorem lO.mono {f:FuncId} {args:List AV} {Q Q':AV→aN→Prop} (h:lO P f args s Q) (hq:∀ av s,Q av s→Q' av s):lO P f args s Q' :=
 fun w m i cargs h1 h2=>(h w m i cargs h1 h2).mono fun _ _ ⟨v,av,s',m',i',he,q,r⟩=>⟨v,av,s',m',i',he,hq _ _ q,r⟩

theorem lO.frame {f:FuncId} {args:List AV} {Q:AV→aN→Prop} (h:lO P f args s Q) {s0 r:aN} (hp:s0.Perm (s++r)) :
  lO P f args s0 (fun av s'=>∃ s1,Q av s1∧s'=s1++r):=by
 intro w m i cargs h1 h2
 have h1':=h1.perm hp
 refine (h w m i cargs (h1'.sub (List.sublist_append_left _ _)) h2).mono ?_
 intro e w' ⟨v,av,s',m',i',he,q,hv,hr,hs⟩
 obtain ⟨f1,f2⟩:=h1'.frame hs hr
 exact ⟨v,av,s'++r,m',i',he,⟨s',q,rfl⟩,hv,f1,f2.perm hp.symm (List.Perm.refl _)⟩

end
end Go.Am

/- The abstract machine, part 3: facts on types in tables; memory that is made; operations that leave the store alone. -/
namespace Go.Am
open Go

/-! ### tables of types -/
inductive Kd where
 | bool | int (k:IntKind) | string | pointer (e:Nat) | slice (e:Nat) | map (k e:Nat) | func | struct | array | other

def aFg:Option TypeDesc→Kd
 | some .bool=>.bool
 | some (.int k)=>.int k
 | some .string=>.string
 | some (.pointer e)=>.pointer e
 | some (.slice e)=>.slice e
 | some (.map k e)=>.map k e
 | some (.func _ _ _)=>.func
 | some (.struct _)=>.struct
 | some (.array _ _)=>.array
 | _=>.other

def bGm:Option TypeDesc→Option (Nat×Nat)
 | some (.array n e)=>some (n,e)
 | _=>none
def bD8:Option TypeDesc→Option (Nat×Nat)
 | some (.map k e)=>some (k,e)
 | _=>none
def bAi (P:Program):Option TypeDesc→Option (List (Nat×Nat×Nat))
 | some (.struct fs)=>some (fs.toList.map fun f=>(f.type,f.offset,P.cellsOf f.type))
 | _=>none

structure TT where
 kd:List (Nat×Kd)
 sz:List (Nat×Nat)
 by':List (Nat×Nat)
 zero:List (Nat×List Value)
 fld:List (Nat×List (Nat×Nat×Nat))
 arr:List (Nat×(Nat×Nat)):=[]
 mp:List (Nat×(Nat×Nat)):=[]
 zv:List (Nat×Value):=[]

def lk {α:Type}:List (Nat×α)→Nat→Option α
 | [],_=>none
 | (k,v) :: l,x=>if Nat.beq x k then some v else lk l x

theorem aE6 {α:Type}:∀ {l:List (Nat×α)} {x:Nat} {v:α},lk l x=some v→(x,v)∈l
 | [],_,_,h=>by simp [lk] at h
 | (k,u) :: l,x,v,h=>by
  unfold lk at h
  by_cases e:x=k
  ·subst e; rw [eB,if_pos rfl] at h; cases h; exact List.mem_cons_self
  ·rw [fN e] at h; simp at h; exact List.mem_cons_of_mem _ (aE6 h)

structure eG (P:Program) (T:TT):Prop where
 kd:T.kd.map (fun p=>aFg (P.underlying p.1))=T.kd.map (·.2)
 sz:T.sz.map (fun p=>(P.info? p.1).map (·.size))=T.sz.map (fun p=>some p.2)
 by':T.by'.map (fun p=>(P.info? p.1).map (·.bytes))=T.by'.map (fun p=>some p.2)
 zero:T.zero.map (fun p=>((P.info? p.1).bind (·.zero)).map (·.cells.toList))=T.zero.map (fun p=>some p.2)
 fld:T.fld.map (fun p=>bAi P (P.underlying p.1))=T.fld.map (fun p=>some p.2)
 arr:T.arr.map (fun p=>bGm (P.underlying p.1))=T.arr.map (fun p=>some p.2)
 mp:T.mp.map (fun p=>bD8 (P.underlying p.1))=T.mp.map (fun p=>some p.2)
 zv:T.zv.map (fun p=>(P.info? p.1).bind (·.zero))=T.zv.map (fun p=>some p.2)

theorem pL {α β:Type} {f g:α→β}:∀ {l:List α},l.map f=l.map g→∀ x∈l,f x=g x
 | [],_,x,h=>by cases h
 | y :: l,e,x,h=>by
  simp only [List.map_cons,List.cons.injEq] at e
  rcases List.mem_cons.1 h with rfl | h
  ·exact e.1
  ·exact pL e.2 x h

section
variable {P:Program} {T:TT}
theorem eG.kd' (h:eG P T) {t:Nat} {k:Kd} (e:lk T.kd t=some k):aFg (P.underlying t)=k:=pL h.kd _ (aE6 e)
theorem eG.sz' (h:eG P T) {t k:Nat} (e:lk T.sz t=some k):(P.info? t).map (·.size)=some k:=pL h.sz _ (aE6 e)
theorem eG.by'' (h:eG P T) {t k:Nat} (e:lk T.by' t=some k):(P.info? t).map (·.bytes)=some k:=pL h.by' _ (aE6 e)
theorem eG.zero' (h:eG P T) {t:Nat} {k:List Value} (e:lk T.zero t=some k):((P.info? t).bind (·.zero)).map (·.cells.toList)=some k:=pL h.zero _ (aE6 e)
theorem eG.arr' (h:eG P T) {t:Nat} {k} (e:lk T.arr t=some k):P.underlying t=some (.array k.1 k.2):=by
 have:=pL h.arr _ (aE6 e)
 unfold bGm at this
 split at this
 ·rename_i n e0 hu; simp only [Option.some.injEq] at this; rw [← this]; exact hu
 ·cases this
theorem eG.mp' (h:eG P T) {t:Nat} {k} (e:lk T.mp t=some k):P.underlying t=some (.map k.1 k.2):=by
 have:=pL h.mp _ (aE6 e)
 unfold bD8 at this
 split at this
 ·rename_i n e0 hu; simp only [Option.some.injEq] at this; rw [← this]; exact hu
 ·cases this
theorem eG.zv' (h:eG P T) {t:Nat} {v:Value} (e:lk T.zv t=some v) (w:World):(zeroValue t).run P w=.ok v w:=by
 have:=pL h.zv _ (aE6 e)
 cases hi:P.info? t with
 | none=>rw [hi] at this; simp at this
 | some i=>rw [hi] at this; simp at this; simp [zeroValue,typeInfo,hi,this]
theorem eG.fld' (h:eG P T) {t:Nat} {k} (e:lk T.fld t=some k):bAi P (P.underlying t)=some k:=pL h.fld _ (aE6 e)

def Kd.agg:Kd→Option Bool
 | .struct | .array=>some true
 | .other=>none
 | _=>some false

def TT.lay (T:TT) (t:Nat):Option (Bool×Nat) :=
 match lk T.kd t with
 | none=>none
 | some k=>match lk T.sz t with
  | none=>none
  | some n=>match k.agg with
   | none=>none
   | some true=>some (true,n)
   | some false=>if Nat.beq n 1 then some (false,1) else none

theorem TT.lay_inv {t:Nat} {b:Bool} {n:Nat} (e:T.lay t=some (b,n)):∃ k,lk T.kd t=some k∧lk T.sz t=some n∧k.agg=some b∧(b=false→n=1):=by
 unfold TT.lay at e
 split at e
 ·cases e
 ·rename_i k hk
  split at e
  ·cases e
  ·rename_i m hm
   split at e
   ·cases e
   ·rename_i ha
    cases e
    exact ⟨k,hk,hm,ha,fun h=>by cases h⟩
   ·rename_i ha
    split at e
    ·rename_i hb
     cases e
     have:m=1:=Nat.eq_of_beq_eq_true hb
     subst this
     exact ⟨k,hk,hm,ha,fun _=>rfl⟩
    ·cases e

theorem eG.under (h:eG P T) {t:Nat} {k:Kd} (e:lk T.kd t=some k) (hk:k≠.other):∃ d,P.underlying t=some d∧aFg (some d)=k:=by
 have:=h.kd' e
 cases hu:P.underlying t with
 | none=>rw [hu] at this; exact absurd this.symm hk
 | some d=>exact ⟨d,rfl,by rw [hu] at this; exact this⟩

theorem eG.size (h:eG P T) {t n:Nat} (e:lk T.sz t=some n):∃ i,P.info? t=some i∧i.size=n:=by
 have:=h.sz' e
 cases hi:P.info? t with
 | none=>rw [hi] at this; simp at this
 | some i=>rw [hi] at this; simp at this; exact ⟨i,rfl,this⟩

theorem aNO {t:Nat} {b:Bool} {n:Nat} (h:eG P T) (e:T.lay t=some (b,n)) (w:World):(isAgg t).run P w=.ok b w∧(sizeOf t).run P w=.ok n w:=by
 obtain ⟨k,h1,h2,h3,_⟩:=TT.lay_inv e
 obtain ⟨i,hi,hn⟩:=h.size h2
 obtain ⟨d,hd,hk⟩:=h.under h1 (by intro hh; subst hh; cases h3)
 refine ⟨?_,by simp [sizeOf,typeInfo,hi,hn]⟩
 unfold isAgg
 rw [Sem.run_bind,run_underlying hd]
 simp only [Result.andThen_ok]
 rw [← hk] at h3
 clear hd hk h1 h2 hi hn e i
 cases d <;> simp [aFg,Kd.agg] at h3 <;> subst h3 <;> rfl

/-! ### reading immutable cells -/
theorem VC.get {m:Mu} {i:Io}:∀ {cs:List AV} {b o:Nat},VC m i cs b o→∀ (k:Nat) (c:AV),cs[k]?=some c→∃ v,m b (o+k)=some v∧VR m i c v
 | [],_,_,_,k,c,h=>by simp at h
 | c0 :: cs,b,o,⟨⟨v,h1,h2⟩,h3⟩,k,c,h=>by
  cases k with
  | zero=>simp at h; subst h; exact ⟨v,h1,h2⟩
  | succ k=>simp at h; obtain ⟨u,h4,h5⟩:=VC.get h3 k c h; exact ⟨u,by rw [show o+(k+1)=o+1+k from by omega]; exact h4,h5⟩

theorem VC.list {m:Mu} {i:Io}:∀ {cs:List AV} {b o:Nat},VC m i cs b o→∃ vs:List Value,VL m i cs vs∧∀ (k:Nat) (v:Value),vs[k]?=some v→m b (o+k)=some v
 | [],_,_,_=>⟨[],rfl,by simp⟩
 | c :: cs,b,o,⟨⟨v,h1,h2⟩,h3⟩=>by
  obtain ⟨vs,h4,h5⟩:=VC.list h3
  refine ⟨v :: vs,⟨v,vs,rfl,h2,h4⟩,?_⟩
  intro k u hu
  cases k with
  | zero=>simp at hu; subst hu; exact h1
  | succ k=>simp at hu; rw [show o+(k+1)=o+1+k from by omega]; exact h5 k u hu

theorem VC.drop {m:Mu} {i:Io}:∀ (k:Nat) {cs:List AV} {b o:Nat},VC m i cs b o→VC m i (cs.drop k) b (o+k)
 | 0,cs,b,o,h=>h
 | k+1,[],b,o,_=>trivial
 | k+1,c :: cs,b,o,h=>by
  have:=VC.drop k h.2
  simp only [List.drop_succ_cons]
  rw [show o+(k+1)=o+1+k from by omega]; exact this

theorem VC.take {m:Mu} {i:Io}:∀ (k:Nat) {cs:List AV} {b o:Nat},VC m i cs b o→VC m i (cs.take k) b o
 | 0,_cs,_b,_o,_h=>trivial
 | _k+1,[],_b,_o,_=>trivial
 | k+1,_c :: _cs,_b,_o,h=>⟨h.1,VC.take k h.2⟩

theorem VC.append {m:Mu} {i:Io}:∀ {cs ds:List AV} {b o:Nat},VC m i cs b o→VC m i ds b (o+cs.length)→VC m i (cs++ds) b o
 | [],ds,b,o,_,h=>h
 | c :: cs,ds,b,o,h,k=>⟨h.1,VC.append h.2 (by rw [show o+1+cs.length=o+(c :: cs).length from by simp; omega]; exact k)⟩

theorem VC.of_list {m:Mu} {i:Io}:∀ {cs:List AV} {vs:List Value} {b o:Nat},VL m i cs vs→(∀ (k:Nat) (v:Value),vs[k]?=some v→m b (o+k)=some v)→VC m i cs b o
 | [],_,_,_,_,_=>trivial
 | c :: cs,_,b,o,⟨v,vs,h1,h2,h3⟩,h=>by
  subst h1
  exact ⟨⟨v,by simpa using h 0 v rfl,h2⟩,VC.of_list h3 fun k u hu=>by rw [show o+1+k=o+(k+1) from by omega]; exact h (k+1) u (by simpa using hu)⟩

theorem VL.drop {m:Mu} {i:Io}:∀ (k:Nat) {cs:List AV} {vs:List Value},VL m i cs vs→VL m i (cs.drop k) (vs.drop k)
 | 0,_,_,h=>h
 | k+1,[],_,h=>by rw [h]; rfl
 | k+1,c :: cs,_,⟨v,vs,h1,h2,h3⟩=>by subst h1; exact VL.drop k h3

theorem VL.take {m:Mu} {i:Io}:∀ (k:Nat) {cs:List AV} {vs:List Value},VL m i cs vs→VL m i (cs.take k) (vs.take k)
 | 0,_,_,h=>rfl
 | k+1,[],_,h=>by rw [h]; rfl
 | k+1,c :: cs,_,⟨v,vs,h1,h2,h3⟩=>by subst h1; exact ⟨v,vs.take k,rfl,h2,VL.take k h3⟩

theorem VL.append {m:Mu} {i:Io}:∀ {cs ds:List AV} {vs us:List Value},VL m i cs vs→VL m i ds us→VL m i (cs++ds) (vs++us)
 | [],_,_,_,h,k=>by rw [h]; exact k
 | c :: cs,ds,_,us,⟨v,vs,h1,h2,h3⟩,k=>by subst h1; exact ⟨v,vs++us,rfl,h2,VL.append h3 k⟩

theorem VL.set {m:Mu} {i:Io} {c:AV} {v:Value} (hv:VR m i c v):∀ {cs:List AV} {vs:List Value} (k:Nat),VL m i cs vs→VL m i (cs.set k c) (vs.set k v)
 | [],_,_,h=>by rw [h]; rfl
 | c0 :: cs,_,0,⟨v0,vs,h1,h2,h3⟩=>by subst h1; exact ⟨v,vs,rfl,hv,h3⟩
 | c0 :: cs,_,k+1,⟨v0,vs,h1,h2,h3⟩=>by subst h1; exact ⟨v0,vs.set k v,rfl,h2,VL.set hv k h3⟩

theorem add_lit (b o k:Nat):(⟨b,o,none⟩:Addr).add k=⟨b,o+k,none⟩:=by unfold Addr.add; split <;> simp_all

theorem aAe {w:World} {t:Nat} {b o:Nat} {g:Bool} {n:Nat} (h:eG P T) (e:T.lay t=some (g,n)) (vs:List Value) (hn:vs.length=n)
  (hv:∀ (k:Nat) (v:Value),vs[k]?=some v→w.cell? ⟨b,o+k,none⟩=some v) :
  (Instr.loadAt t (.pointer (some ⟨b,o,none⟩))).run P w=.ok (if g then .agg vs.toArray else vs.headD undef) w:=by
 obtain ⟨h1,h2⟩:=aNO h e w
 unfold Instr.loadAt Instr.sureAddr loadVar
 simp only [Sem.run_bind,Sem.run_pure,Result.andThen_ok,h1]
 cases g with
 | true =>
  simp only [if_true,Sem.run_bind,h2,Result.andThen_ok,Sem.run_pure]
  have:=run_loadCells_list (P:=P) w ⟨b,o,none⟩ vs (fun j v hj=>by rw [add_lit]; exact hv j v hj)
  rw [hn] at this
  rw [this]
  rfl
 | false =>
  have hn1:n=1:=(TT.lay_inv e).choose_spec.2.2.2 rfl
  subst hn1
  match vs,hn with
  | [v],_ =>
   have:=hv 0 v rfl
   simp only [Bool.false_eq_true,if_false]
   rw [run_load]
   simp only [Nat.add_zero] at this
   rw [this]
   rfl

end
end Go.Am

/- The abstract machine, part 4: operations that leave the store alone. -/
namespace Go.Am
open Go

abbrev AV.i (n:Int):AV:=.lit (.int .i64 n)
abbrev AV.b (x:Bool):AV:=.lit (.bool x)
abbrev AV.s (l:List UInt8):AV:=.lit (.string ⟨l.toArray⟩)
abbrev AV.nil:AV:=.lit (.pointer none)

def AV.ite:Bool→AV→AV→AV
 | true,x,_=>x
 | false,_,y=>y

def AV.cells:AV→List AV
 | .agg cs=>cs
 | v=>[v]

def AV.scalar:AV→Bool
 | .agg _ | .tup _ | .any=>false
 | .lit (.agg _) | .lit (.tuple _)=>false
 | _=>true

/-! ### views -/
theorem VTs.vc {m:Mu} {i:Io}:∀ (ks:List Tr) (b o:Nat),VTs m ks b o→VC m i (ks.map .tree) b o
 | [],_,_,_=>trivial
 | _k :: ks,b,o,⟨h1,h2⟩=>⟨h1,VTs.vc ks b (o+1) h2⟩
theorem VC.vts {m:Mu} {i:Io}:∀ (ks:List Tr) (b o:Nat),VC m i (ks.map .tree) b o→VTs m ks b o
 | [],_,_,_=>trivial
 | _k :: ks,b,o,⟨h1,h2⟩=>⟨h1,VC.vts ks b (o+1) h2⟩

abbrev bHX (ks:List Tr):AV:=.slc (ks.map .tree) ks.length false
abbrev aZP (k n:Int) (nm mk:List UInt8) (ks:List Tr):AV:=.ptr [.i k,.i n,.s nm,.s mk,bHX ks]

theorem jS.trans {x y z:AV} (h:jS x y) (k:jS y z):jS x z:=fun m i v hv=>k m i v (h m i v hv)
theorem jS.any (x:AV):jS x .any:=fun _ _ _ _=>trivial
theorem jS.nil_tree:jS .nil (.tree .nil):=fun _ _ _ h=>h
theorem jS.tree_node (k n:Int) (nm mk:List UInt8) (ks:List Tr):jS (.tree (.node k n nm mk ks)) (aZP k n nm mk ks):=by
 intro m i v h
 obtain ⟨b,o,u,h1,h2,h3,h4,h5,h6,h7⟩:=h
 refine ⟨b,o,h1,⟨_,h2,rfl⟩,⟨_,h3,rfl⟩,⟨_,h4,rfl⟩,⟨_,h5,rfl⟩,⟨u,h6,?_⟩,trivial⟩
 rcases h7 with ⟨rfl,h8⟩ | ⟨b',o',cap,h8,h9,h10,h11⟩
 ·exact .inl ⟨rfl,rfl,h8⟩
 ·exact .inr ⟨b',o',cap,h8,h9,h10,fun h=>(by cases h),VTs.vc _ _ _ h11⟩
theorem jS.node_tree (k n:Int) (nm mk:List UInt8) (ks:List Tr):jS (aZP k n nm mk ks) (.tree (.node k n nm mk ks)):=by
 intro m i v h
 obtain ⟨b,o,h1,⟨u1,h2,rfl⟩,⟨u2,h3,rfl⟩,⟨u3,h4,rfl⟩,⟨u4,h5,rfl⟩,⟨u,h6,h7⟩,_⟩:=h
 refine ⟨b,o,u,h1,h2,h3,h4,h5,h6,?_⟩
 rcases h7 with ⟨hn,hl,h8⟩ | ⟨b',o',cap,h8,h9,h10,_,h11⟩
 ·exact .inl ⟨List.length_eq_zero_iff.1 hn,h8⟩
 ·exact .inr ⟨b',o',cap,h8,h9,h10,VC.vts _ _ _ h11⟩
theorem jS.slc_full (cs:List AV) (n:Nat) (f:Bool):jS (.slc cs n f) (.slc cs n false):=by
 intro m i v h
 rcases h with h | ⟨b,o,cap,h1,h2,h3,h4,h5⟩
 ·exact .inl h
 ·exact .inr ⟨b,o,cap,h1,h2,h3,fun h=>(by cases h),h5⟩
theorem jS.nil_slc (f:Bool):jS (.lit (.slice none 0 0)) (.slc [] 0 f):=fun _ _ _ h=>.inl ⟨rfl,rfl,none,h⟩

section
variable {P:Program} {T:TT} {t:mA} {s:aN}

theorem aSD {o:Oper} {av:AV} {s':aN}
  (h:∀ (a:Act) (w:World) (m:Mu) (i:Io),nX w m i s→(∀ k,Operand.tmp k∈o.op.operands→VR m i (t k) (a.tmps.getD k undef)) →
   ∃ v w' m' i',(execOp a.eval o).run P w=.ok (.value v) w'∧VR m' i' av v∧nX w' m' i' s'∧Step w m i s w' m' i' s') :
  sP P o t s (fun x y=>x=av∧y=s'):=by
 intro a w m i hr ho K Q hk
 obtain ⟨v,w',m',i',h1,h2,h3,h4⟩:=h a w m i hr ho
 unfold Oper.wp
 rw [h1]
 exact hk v w' av s' m' i' ⟨rfl,rfl⟩ h2 h3 h4

theorem fM {o:Oper} {av:AV}
  (h:∀ (a:Act) (w:World) (m:Mu) (i:Io),nX w m i s→(∀ k,Operand.tmp k∈o.op.operands→VR m i (t k) (a.tmps.getD k undef)) →
   ∃ v,(execOp a.eval o).run P w=.ok (.value v) w∧VR m i av v) :
  sP P o t s (fun x y=>x=av∧y=s) :=
 aSD fun a w m i hr ho=>let ⟨v,h1,h2⟩:=h a w m i hr ho; ⟨v,w,m,i,h1,h2,hr,Step.refl _ _ _ _⟩

/-! ### a row of immutable cells is made -/
def Mu.more (m:Mu) (b0:Nat) (vs:List Value):Mu:=fun b o=>if b=b0 then vs[o]? else m b o

theorem nX.none_new {w m i} (h:nX w m i s) (o:Nat):m w.heap.size o=none:=by
 cases hm:m w.heap.size o with
 | none=>rfl
 | some v =>
  have:=World.block_lt_of_cell? w _ (h.mu _ _ _ hm).1
  simp at this

theorem Mu.le_more {w m i} (h:nX w m i s) (vs:List Value):m.le (m.more w.heap.size vs):=by
 intro b o v hb
 unfold Mu.more
 by_cases e:b=w.heap.size
 ·subst e; rw [h.none_new] at hb; cases hb
 ·rw [if_neg e]; exact hb

theorem nX.make {w m i} (h:nX w m i s) (e:TypeId) (vs:List Value) (d:Nat) (h1:pY vs) :
  nX ({ (w.alloc (.cells vs.toArray e (0,0))) with drawn:=d }) (m.more w.heap.size vs) i s∧Step w m i s ({ (w.alloc (.cells vs.toArray e (0,0))) with drawn:=d }) (m.more w.heap.size vs) i s:=by
 have hmo:∀ b,b<w.heap.size→∀ o,m.more w.heap.size vs b o=m b o:=fun b hb o=>by unfold Mu.more; rw [if_neg (by omega)]
 refine ⟨⟨fun b o v hv=>?_,fun p hp=>?_,h.apart,h.fin,fun b o v hh=>Mu.le_more h vs _ _ _ (h.tab b o v hh)⟩,⟨rfl,rfl,rfl,by simp,Mu.le_more h vs,Io.le_refl _,fun b hb _=>heap_alloc_old w _ hb,fun b hb _ o=>hmo b hb o,fun p hp=>.inl ⟨p,hp,rfl⟩,fun b hb=>.inl hb⟩⟩
 ·show (w.alloc (.cells vs.toArray e (0,0))).cell? ⟨b,o,none⟩=some v∧v.oneCell'=true
  unfold Mu.more at hv
  by_cases e':b=w.heap.size
  ·subst e'
   rw [if_pos rfl] at hv
   rw [World.cell?_alloc_new]
   exact ⟨by simpa using hv,h1 v (List.mem_of_getElem? hv)⟩
  ·rw [if_neg e'] at hv
   have:=h.mu _ _ _ hv
   rw [World.cell?_alloc_lt _ _ _ (World.block_lt_of_cell? w _ this.1)]
   exact this
 ·exact (h.obj p hp).mono_block (Mu.le_more h vs) (Io.le_refl _) (fun b hb=>heap_alloc_old w _ ((h.obj p hp).lt hb)) (fun b hb o=>hmo b ((h.obj p hp).lt hb) o)

theorem nX.made {w m i} {cs:List AV} {vs:List Value} (h:nX w m i s) (hl:VL m i cs vs):VC (m.more w.heap.size vs) i cs w.heap.size 0 :=
 VC.of_list (VL.mono (Mu.le_more h vs) (Io.le_refl _) _ _ hl) fun k v hk=>by unfold Mu.more; rw [if_pos rfl]; simpa using hk

theorem VR.scalar {m:Mu} {i:Io} {c:AV} {v:Value} (h:VR m i c v) (hc:c.scalar=true):v.oneCell'=true∧v.cells=#[v]∧c.cells=[c]:=by
 cases c with
 | lit x=>unfold VR at h; subst h; cases v <;> first | exact ⟨rfl,rfl,rfl⟩ | cases hc
 | tree t=>cases t with
  | nil=>cases h; exact ⟨rfl,rfl,rfl⟩
  | node k n nm mk ks=>obtain ⟨b,o,v',rfl,_⟩:=h; exact ⟨rfl,rfl,rfl⟩
 | agg cs=>cases hc
 | tup cs=>cases hc
 | any=>cases hc
 | ptr cs=>obtain ⟨b,o,rfl,_⟩:=h; exact ⟨rfl,rfl,rfl⟩
 | slc cs n f=>rcases h with ⟨_,_,a,rfl⟩ | ⟨b,o,cap,rfl,_⟩ <;> exact ⟨rfl,rfl,rfl⟩
 | nslc cs n f=>rcases h with ⟨_,_,a,rfl⟩ | ⟨b,o,cap,rfl,_⟩ <;> exact ⟨rfl,rfl,rfl⟩
 | ref id off=>obtain ⟨b,o,_,rfl⟩:=h; exact ⟨rfl,rfl,rfl⟩
 | row id n=>rcases h with ⟨_,_,rfl⟩ | ⟨b,cap,_,_,rfl⟩ <;> exact ⟨rfl,rfl,rfl⟩
 | fn f fi ca=>obtain ⟨fs,cs,rfl,_⟩:=h; exact ⟨rfl,rfl,rfl⟩
 | mp id=>obtain ⟨b,c,_,rfl⟩:=h; exact ⟨rfl,rfl,rfl⟩
 | it id=>obtain ⟨b,c,_,rfl⟩:=h; exact ⟨rfl,rfl,rfl⟩

theorem VR.cells {m:Mu} {i:Io} {c:AV} {v:Value} (h:VR m i c v) (hc:c.scalar=true∨∃ cs,c=.agg cs):VL m i c.cells v.cells.toList∧pY v.cells.toList:=by
 rcases hc with hc | ⟨cs,rfl⟩
 ·obtain ⟨h1,h2,h3⟩:=h.scalar hc
  rw [h2,h3]
  exact ⟨⟨v,[],rfl,h,rfl⟩,by intro x hx; simp at hx; rw [hx]; exact h1⟩
 ·obtain ⟨vs,rfl,h1,h2⟩:=h
  exact ⟨h2,h1⟩

theorem VL.consts {m:Mu} {i:Io}:∀ (vs:List Value),VL m i (vs.map AV.ofConst) vs
 | []=>rfl
 | v :: vs=>⟨v,vs,rfl,VR.ofConst v,VL.consts vs⟩

theorem VL.map_ev {m:Mu} {i:Io} {a:Act}:∀ (l:List Operand),(∀ k,Operand.tmp k∈l→VR m i (t k) (a.tmps.getD k undef))→VL m i (l.map (ev t)) (l.map a.eval)
 | [],_=>rfl
 | x :: l,h=>⟨_,_,rfl,VR.ev x (fun k hk=>h k (by subst hk; exact List.mem_cons_self)),VL.map_ev l fun k hk=>h k (List.mem_cons_of_mem _ hk)⟩

/-! ### what a literal of a struct, of a slice holds -/
def aGl (place:Nat→Option (Nat×Nat)) (cells:List AV):List (Nat×AV)→Option (List AV)
 | []=>some cells
 | (j,v) :: rest =>
  match place j with
  | none=>none
  | some (off,size) =>
   match v with
   | .agg cs=>if Nat.beq cs.length size && Nat.ble (off+cs.length) cells.length then aGl place (cells.take off++cs++cells.drop (off+cs.length)) rest else none
   | v=>if v.scalar && Nat.beq 1 size && Nat.ble (off+1) cells.length then aGl place (cells.set off v) rest else none

theorem VL.eq_len {m:Mu} {i:Io} {cs:List AV} {vs:List Value} (h:VL m i cs vs):cs.length=vs.length:=(VL.length h).symm

theorem aUo (off:Nat):∀ (xs:List Value) (k:Nat) (cs:Array Value),off+k+xs.length≤cs.size →
  ((xs.zipIdx k).foldl (fun cs (p:Value×Nat)=>cs.setIfInBounds (off+p.2) p.1) cs).toList=cs.toList.take (off+k)++xs++cs.toList.drop (off+k+xs.length)
 | [],k,cs,_=>by simp
 | x :: xs,k,cs,h=>by
  simp only [List.length_cons] at h
  simp only [List.zipIdx_cons,List.foldl_cons]
  rw [aUo off xs (k+1) _ (by simp; omega)]
  have hn:off+k<cs.toList.length:=by simp; omega
  have e1:(cs.setIfInBounds (off+k) x).toList=cs.toList.take (off+k)++x :: cs.toList.drop (off+k+1):=by
   rw [Array.toList_setIfInBounds,List.set_eq_take_append_cons_drop,if_pos hn]
  have hl:(cs.toList.take (off+k)).length=off+k:=by rw [List.length_take]; omega
  rw [e1,show off+(k+1)=off+k+1 from by omega]
  have e2:(cs.toList.take (off+k)++x :: cs.toList.drop (off+k+1)).take (off+k+1)=cs.toList.take (off+k)++[x]:=by
   rw [List.take_append,hl,List.take_of_length_le (by omega)]
   simp
  have e3:(cs.toList.take (off+k)++x :: cs.toList.drop (off+k+1)).drop (off+k+1+xs.length)=cs.toList.drop (off+k+(xs.length+1)):=by
   rw [List.drop_append,hl,List.drop_of_length_le (by omega),show off+k+1+xs.length - (off+k)=xs.length+1 from by omega]
   simp only [List.nil_append,List.drop_succ_cons,List.drop_drop]
   congr 1
   omega
  rw [e2,e3]
  simp

def PL (m:Mu) (i:Io):List (Nat×AV)→List (Nat×Value)→Prop
 | [],l=>l=[]
 | p :: ps,l=>∃ v l',l=(p.1,v) :: l'∧VR m i p.2 v∧PL m i ps l'

theorem aNI {m:Mu} {i:Io} {place:Nat→Option (Nat×Nat)}:∀ (ps:List (Nat×AV)) (qs:List (Nat×Value)) (cells cells':List AV) (vs:List Value),
  PL m i ps qs→VL m i cells vs→pY vs→aGl place cells ps=some cells'→∃ vs':List Value,Instr.fill place vs.toArray qs=some vs'.toArray∧VL m i cells' vs'∧pY vs'
 | [],qs,cells,cells',vs,hp,hv,hone,h=>by
  simp only [PL] at hp
  simp only [aGl,Option.some.injEq] at h
  subst hp; subst h
  exact ⟨vs,rfl,hv,hone⟩
 | (j,v) :: ps,_,cells,cells',vs,⟨x,qs,rfl,hx,hq⟩,hv,hone,h=>by
  simp only [aGl] at h
  split at h
  ·cases h
  ·rename_i off size hpl
   have step:∀ (ns:List AV) (nv:List Value) (hxs:x.cells.toList=nv) (ho1:pY nv) (hn:VL m i ns nv) (hs:nv.length=size) (hle:off+nv.length≤vs.length)
     (h2:aGl place (cells.take off++ns++cells.drop (off+ns.length)) ps=some cells'),∃ vs':List Value,Instr.fill place vs.toArray ((j,x) :: qs)=some vs'.toArray∧VL m i cells' vs'∧pY vs':=by
    intro ns nv hxs ho1 hn hs hle h2
    obtain ⟨vs',h3,h4⟩:=aNI ps qs _ cells' (vs.take off++nv++vs.drop (off+nv.length)) hq (by
     rw [show off+ns.length=off+nv.length from by rw [hn.eq_len]]
     exact ((hv.take _).append hn).append (hv.drop _)) (by
     intro y hy
     rcases List.mem_append.1 hy with hy | hy
     ·rcases List.mem_append.1 hy with hy | hy
      ·exact hone y (List.mem_of_mem_take hy)
      ·exact ho1 y hy
     ·exact hone y (List.mem_of_mem_drop hy)) h2
    refine ⟨vs',?_,h4⟩
    simp only [Instr.fill,hpl]
    have hsz:x.cells.size=nv.length:=by rw [← hxs]; simp
    rw [if_neg (by simp [hsz,hs]; omega),← h3]
    congr 1
    have hf:=aUo off nv 0 vs.toArray (by simp; omega)
    have hz:x.cells.zipIdx.foldl (fun cs (p:Value×Nat)=>cs.setIfInBounds (off+p.2) p.1) vs.toArray=(nv.zipIdx 0).foldl (fun cs (p:Value×Nat)=>cs.setIfInBounds (off+p.2) p.1) vs.toArray:=by
     rw [← hxs,← Array.foldl_toList]
     simp
    apply Array.toList_inj.1
    have hf':=hf
    simp only [Nat.add_zero] at hf'
    exact (congrArg Array.toList hz).trans hf'
   split at h
   ·rename_i cs
    split at h
    ·rename_i hb
     obtain ⟨xs,rfl,hx1,hxs⟩:=hx
     simp only [Bool.and_eq_true] at hb
     have h1:cs.length=size:=Nat.eq_of_beq_eq_true hb.1
     have h2:off+cs.length≤cells.length:=Nat.le_of_ble_eq_true hb.2
     have hl:=hxs.eq_len
     have hl2:=hv.eq_len
     exact step cs xs rfl hx1 hxs (by omega) (by omega) h
    ·cases h
   ·split at h
    ·rename_i hb
     simp only [Bool.and_eq_true] at hb
     have h1:1=size:=Nat.eq_of_beq_eq_true hb.1.2
     have h2:off+1≤cells.length:=Nat.le_of_ble_eq_true hb.2
     have hl2:=hv.eq_len
     obtain ⟨hc,hc1⟩:=hx.cells (.inl hb.1.1)
     have hvc:v.cells=[v]:=by cases v <;> first | rfl | (simp [AV.scalar] at hb)
     rw [hvc] at hc
     have hl:=hc.eq_len
     refine step [v] x.cells.toList rfl hc1 hc (by rw [← hl]; exact h1) (by simp only [List.length_cons,List.length_nil] at hl; omega) ?_
     rw [← h]
     congr 1
     rw [List.set_eq_take_append_cons_drop,if_pos (by omega)]
     simp
    ·cases h

end
end Go.Am

/- The abstract machine, part 5: a program for the operations that leave the store alone, and that it is right. -/
namespace Go.Am
open Go

def aYc (op:BinOp) (k:IntKind) (a b:Int):Option AV :=
 match op with
 | .add=>some (.lit (.int k (k.wrap (a+b))))
 | .sub=>some (.lit (.int k (k.wrap (a - b))))
 | .mul=>some (.lit (.int k (k.wrap (a * b))))
 | .eql=>some (.b (decide (a=b)))
 | .neq=>some (.b (!decide (a=b)))
 | .lss=>some (.b (decide (a<b)))
 | .leq=>some (.b (decide (a≤b)))
 | .gtr=>some (.b (decide (b<a)))
 | .geq=>some (.b (decide (b≤a)))
 | .quo=>if b=0 then none else some (.lit (.int k (k.wrap (a.tdiv b))))
 | .rem=>if b=0 then none else some (.lit (.int k (a.tmod b)))
 | _=>none

def aMt (op:BinOp) (kd:Option Kd) (x y:AV):Option AV :=
 match x,y with
 | .lit (.int k a),.lit (.int k' b)=>if k=k' then aYc op k a b else none
 | .lit (.string a),.lit (.string b) =>
  match op with
  | .eql=>some (.b (decide (a.data.toList=b.data.toList)))
  | .neq=>some (.b (!decide (a.data.toList=b.data.toList)))
  | .lss=>some (.b (Op.bytesLess a.data.toList b.data.toList))
  | _=>none
 | .lit (.bool a),.lit (.bool b) =>
  match kd,op with
  | some .bool,.eql=>some (.b (a == b))
  | some .bool,.neq=>some (.b (!(a == b)))
  | _,_=>none
 | .lit (.pointer none),.lit (.pointer none) =>
  match kd,op with
  | some (.pointer _),.eql=>some (.b true)
  | some (.pointer _),.neq=>some (.b false)
  | _,_=>none
 | .nslc _ _ _,.lit (.slice none _ _) =>
  match kd,op with
  | some (.slice _),.eql=>some (.b false)
  | some (.slice _),.neq=>some (.b true)
  | _,_=>none
 | .lit (.slice none _ _),.lit (.slice none _ _) =>
  match kd,op with
  | some (.slice _),.eql=>some (.b true)
  | some (.slice _),.neq=>some (.b false)
  | _,_=>none
 | .tree .nil,.lit (.pointer none) =>
  match kd,op with
  | some (.pointer _),.eql=>some (.b true)
  | some (.pointer _),.neq=>some (.b false)
  | _,_=>none
 | .tree (.node _ _ _ _ _),.lit (.pointer none) =>
  match kd,op with
  | some (.pointer _),.eql=>some (.b false)
  | some (.pointer _),.neq=>some (.b true)
  | _,_=>none
 | .ptr _,.lit (.pointer none) | .ref _ _,.lit (.pointer none) =>
  match kd,op with
  | some (.pointer _),.eql=>some (.b false)
  | some (.pointer _),.neq=>some (.b true)
  | _,_=>none
 | _,_=>none

def aHc (t:mA) (ps:Array (Nat×Operand)):List (Nat×AV):=ps.toList.map fun p=>(p.1,ev t p.2)

def aHV (T:TT) (t:mA) (b:Builtin) (args:List Operand) (types:List Nat):Option AV :=
 match b,args,types with
 | .len,[x],[ty] =>
  match lk T.kd ty,ev t x with
  | some .string,.lit (.string a)=>some (.i a.data.toList.length)
  | some (.slice _),.lit (.slice none 0 0)=>some (.i 0)
  | some (.slice _),.slc _ n _=>some (.i n)
  | some (.slice _),.nslc _ n _=>some (.i n)
  | some (.slice _),.row _ n=>some (.i n)
  | _,_=>none
 | .min,[x,y],_ =>
  match ev t x,ev t y with
  | .lit (.int k a),.lit (.int _ b)=>some (.lit (.int k (if b<a then b else a)))
  | _,_=>none
 | .max,[x,y],_ =>
  match ev t x,ev t y with
  | .lit (.int k a),.lit (.int _ b)=>some (.lit (.int k (if a<b then b else a)))
  | _,_=>none
 | _,_,_=>none

def pop (T:TT) (t:mA):Op→Option AV
 | .move x=>some (ev t x)
 | .assign x=>some (ev t x)
 | .pick c a b=>match ev t c with
  | .lit (.bool x)=>some (AV.ite x (ev t a) (ev t b))
  | _=>none
 | .nilCheck x=>match ev t x with
  | .ptr cs=>some (.ptr cs)
  | .tree (.node k n nm mk ks)=>some (aZP k n nm mk ks)
  | .ref i o=>some (.ref i o)
  | .fn (.func f) fi ca=>some (.fn (.func f) fi ca)
  | _=>none
 | .fieldAddr ty x f=>match lk T.fld ty with
  | none=>none
  | some fs=>match fs[f]? with
   | some (_,off,_sz+1)=>match ev t x with
    | .ptr cs=>some (.ptr (cs.drop off))
    | .ref i o=>some (.ref i (o+off))
    | _=>none
   | _=>none
 | .field ty x f=>match lk T.fld ty with
  | none=>none
  | some fs=>match fs[f]? with
   | some (fty,off,_)=>match ev t x with
    | .agg cs=>match T.lay fty with
     | some (true,n)=>some (.agg ((cs.drop off).take n))
     | some (false,_)=>cs[off]?
     | none=>none
    | _=>none
   | _=>none
 | .load ty a=>match ev t a with
  | .ptr cs=>match T.lay ty with
   | some (true,n)=>if Nat.ble n cs.length then some (.agg (cs.take n)) else none
   | some (false,_)=>cs.head?
   | none=>none
  | _=>none
 | .binOp op ty x y _=>aMt op (lk T.kd ty) (ev t x) (ev t y)
 | .unOp .not _ x=>match ev t x with
  | .lit (.bool b)=>some (.b (!b))
  | _=>none
 | .unOp .neg _ x=>match ev t x with
  | .lit (.int k a)=>some (.lit (.int k (k.wrap (0 - a))))
  | _=>none
 | .convert src dst x=>match lk T.kd src,lk T.kd dst,ev t x with
  | some (.int _),some (.int k),.lit (.int _ a)=>some (.lit (.int k (k.wrap a)))
  | some .string,some .string,.lit (.string a)=>some (.lit (.string a))
  | _,_,_=>none
 | .makeFunc f fi ca=>some (.fn f (fi.toList.map (ev t)) (ca.toList.map (ev t)))
 | .extract x j=>match ev t x with
  | .tup l=>l[j]?
  | _=>none
 | .build ty ps=>match lk T.zero ty,lk T.fld ty with
  | some zs,some fs=>if ((fs.all fun f=>Nat.blt 0 f.2.2) && zs.all Value.oneCell')=false then none else (aGl (fun j=>(fs[j]?).map fun f=>(f.2.1,f.2.2)) (zs.map AV.ofConst) (aHc t ps)).map .agg
  | _,_=>none
 | .box _ v=>match ev t v with
  | .agg cs=>some (.ptr cs)
  | v=>if v.scalar then some (.ptr [v]) else none
 | .buildSlice ty n ps=>match lk T.kd ty with
  | some (.slice e)=>match lk T.zero e,lk T.sz e with
   | some zs,some sz =>
    if Nat.ble (n * sz) 16777216 && Nat.beq zs.length sz && Nat.ble n 16777216 && zs.all Value.oneCell' then
     (aGl (fun j=>some (j * sz,sz)) ((List.range (n * sz)).map fun j=>(zs.map AV.ofConst).getD (j % sz) .any) (aHc t ps)).map fun cs=>.slc cs n true
    else none
   | _,_=>none
  | _=>none
 | .call c=>match c.callee with
  | .builtin b=>aHV T t b c.args.toList c.argTypes.toList
  | _=>none
 | _=>none

section
variable {P:Program} {T:TT} {t:mA} {s:aN}

theorem aND (a:ByteArray):a.toList=a.data.toList:=ByteArray.toList_eq a

theorem aGw {op:BinOp} {ty:Nat} {x y:Operand} {a b:Value} (h1:∀ cs,a≠.agg cs) (h2:a≠.nilIface) (w:World):(eqGuard op ty x y a b).run P w=.ok () w:=by
 unfold eqGuard
 cases op <;> simp <;> (split <;> first | (exact absurd rfl h2) | (exact absurd rfl (h1 _)) | rfl)

theorem bEc {op:BinOp} {k:IntKind} {a b:Int} {av:AV} (h:aYc op k a b=some av) (ty:Nat) (w:World) :
  ∃ v,(binOp op ty (.int k a) (.int k b)).run P w=.ok v w∧av=.lit v:=by
 have e1:∀ a b:Int,(a == b)=decide (a=b):=fun a b=>rfl
 cases op <;> simp only [aYc] at h <;> first
  | (cases h; refine ⟨_,?_,rfl⟩; simp [binOp,Op.intArith,Op.intCmp,e1,bne]; done)
  | (cases h; done)
  | (by_cases hb:b=0; (rw [if_pos hb] at h; cases h); (rw [if_neg hb] at h; cases h; refine ⟨_,?_,rfl⟩; simp [binOp,Op.intDiv,hb]))

theorem aS0 (ty:Nat) (a b:Bool):binOp .eql ty (.bool a) (.bool b)=(do pure (.bool (← Op.equal ty (.bool a) (.bool b)))):=rfl
theorem aTh (ty:Nat) (a b:Bool):binOp .neq ty (.bool a) (.bool b)=(do pure (.bool (!(← Op.equal ty (.bool a) (.bool b))))):=rfl
theorem zN (ty:Nat) (a b:Option Addr):binOp .eql ty (.pointer a) (.pointer b)=(do pure (.bool (← Op.equal ty (.pointer a) (.pointer b)))):=by cases a <;> cases b <;> rfl
theorem zR (ty:Nat) (a b:Option Addr):binOp .neq ty (.pointer a) (.pointer b)=(do pure (.bool (!(← Op.equal ty (.pointer a) (.pointer b))))):=by cases a <;> cases b <;> rfl

theorem run_equal_bool {ty:Nat} (hk:lk T.kd ty=some .bool) (h:eG P T) (a b:Bool) (w:World):(Op.equal ty (.bool a) (.bool b)).run P w=.ok (a == b) w:=by
 obtain ⟨d,hd,hdk⟩:=h.under hk (by simp)
 unfold Op.equal Op.maxDepth Op.equalIn
 cases d <;> simp only [aFg] at hdk <;> first | (cases hdk; done) | skip
 rw [Sem.run_bind,run_underlying hd]
 rfl

theorem kF {ty e:Nat} (hk:lk T.kd ty=some (.pointer e)) (h:eG P T) (a:Option Addr) (w:World):(Op.equal ty (.pointer a) (.pointer none)).run P w=.ok a.isNone w:=by
 obtain ⟨d,hd,hdk⟩:=h.under hk (by simp)
 unfold Op.equal Op.maxDepth Op.equalIn
 cases d <;> simp only [aFg] at hdk <;> first | (cases hdk; done) | skip
 rw [Sem.run_bind,run_underlying hd]
 cases a <;> rfl

theorem aNb (ty:Nat) (a b:Option Addr) (n c n' c':Nat):binOp .eql ty (.slice a n c) (.slice b n' c')=(do pure (.bool (← Op.equal ty (.slice a n c) (.slice b n' c')))):=rfl
theorem aNc (ty:Nat) (a b:Option Addr) (n c n' c':Nat):binOp .neq ty (.slice a n c) (.slice b n' c')=(do pure (.bool (!(← Op.equal ty (.slice a n c) (.slice b n' c'))))):=rfl
theorem aBB {ty e:Nat} (hk:lk T.kd ty=some (.slice e)) (h:eG P T) (a:Option Addr) (n c n' c':Nat) (w:World):(Op.equal ty (.slice a n c) (.slice none n' c')).run P w=.ok a.isNone w:=by
 obtain ⟨d,hd,hdk⟩:=h.under hk (by simp)
 unfold Op.equal Op.maxDepth Op.equalIn
 cases d <;> simp only [aFg] at hdk <;> first | (cases hdk; done) | skip
 rw [Sem.run_bind,run_underlying hd]
 cases a <;> rfl

theorem bEo {op:BinOp} {ty:Nat} {x y:AV} {av:AV} (h:eG P T) (hp:aMt op (lk T.kd ty) x y=some av) {m:Mu} {i:Io} {a b:Value} (ha:VR m i x a) (hb:VR m i y b) (xo yo:Operand) (w:World) :
  ∃ v,(do eqGuard op ty xo yo a b; binOp op ty a b:Sem Value).run P w=.ok v w∧VR m i av v:=by
 have fin:(∀ cs,a≠.agg cs)→a≠.nilIface→(∃ v,(binOp op ty a b).run P w=.ok v w∧VR m i av v)→∃ v,(do eqGuard op ty xo yo a b; binOp op ty a b:Sem Value).run P w=.ok v w∧VR m i av v:=by
  intro h1 h2 ⟨v,h3,h4⟩
  refine ⟨v,?_,h4⟩
  rw [Sem.run_bind,aGw h1 h2]
  exact h3
 unfold aMt at hp
 split at hp
 ·cases ha; cases hb
  split at hp
  ·rename_i hk
   subst hk
   obtain ⟨v,h1,h2⟩:=bEc (P:=P) hp ty w
   exact fin (by simp) (by simp) ⟨v,h1,by rw [h2]; rfl⟩
  ·cases hp
 ·cases ha; cases hb
  refine fin (by simp) (by simp) ?_
  split at hp <;> cases hp
  ·exact ⟨_,by rw [binOp_string_eql]; rfl,by simp [VR,aND,Bool.beq_eq_decide_eq]⟩
  ·exact ⟨_,by rw [binOp_string_neq]; rfl,by simp [VR,aND,Bool.beq_eq_decide_eq]⟩
  ·exact ⟨_,by rw [binOp_string_lss]; rfl,by simp [VR,aND]⟩
 ·cases ha; cases hb
  refine fin (by simp) (by simp) ?_
  split at hp
  ·rename_i hk
   cases hp
   exact ⟨_,by rw [aS0,Sem.run_bind,run_equal_bool hk h]; rfl,rfl⟩
  ·rename_i hk
   cases hp
   exact ⟨_,by rw [aTh,Sem.run_bind,run_equal_bool hk h]; rfl,rfl⟩
  ·cases hp
 ·cases ha; cases hb
  refine fin (by simp) (by simp) ?_
  split at hp
  ·rename_i hk
   cases hp
   exact ⟨_,by rw [zN,Sem.run_bind,kF hk h]; rfl,rfl⟩
  ·rename_i hk
   cases hp
   exact ⟨_,by rw [zR,Sem.run_bind,kF hk h]; rfl,rfl⟩
  ·cases hp
 ·obtain ⟨adr,len',cap',rfl⟩:∃ adr len cap,a=.slice (some adr) len cap:=by
   rcases ha with ⟨_,_,q,rfl⟩ | ⟨b',o',cap',rfl,_⟩
   ·exact ⟨_,_,_,rfl⟩
   ·exact ⟨_,_,_,rfl⟩
  cases hb
  refine fin (by simp) (by simp) ?_
  split at hp
  ·rename_i hk
   cases hp
   exact ⟨_,by rw [aNb,Sem.run_bind,aBB hk h]; rfl,rfl⟩
  ·rename_i hk
   cases hp
   exact ⟨_,by rw [aNc,Sem.run_bind,aBB hk h]; rfl,rfl⟩
  ·cases hp
 ·cases ha; cases hb
  refine fin (by simp) (by simp) ?_
  split at hp
  ·rename_i hk
   cases hp
   exact ⟨_,by rw [aNb,Sem.run_bind,aBB hk h]; rfl,rfl⟩
  ·rename_i hk
   cases hp
   exact ⟨_,by rw [aNc,Sem.run_bind,aBB hk h]; rfl,rfl⟩
  ·cases hp
 ·cases ha; cases hb
  refine fin (by simp) (by simp) ?_
  split at hp
  ·rename_i hk
   cases hp
   exact ⟨_,by rw [zN,Sem.run_bind,kF hk h]; rfl,rfl⟩
  ·rename_i hk
   cases hp
   exact ⟨_,by rw [zR,Sem.run_bind,kF hk h]; rfl,rfl⟩
  ·cases hp
 ·obtain ⟨b',o',v',rfl,_⟩:=ha
  cases hb
  refine fin (by simp) (by simp) ?_
  split at hp
  ·rename_i hk
   cases hp
   exact ⟨_,by rw [zN,Sem.run_bind,kF hk h]; rfl,rfl⟩
  ·rename_i hk
   cases hp
   exact ⟨_,by rw [zR,Sem.run_bind,kF hk h]; rfl,rfl⟩
  ·cases hp
 ·obtain ⟨b',o',rfl,_⟩:=ha
  cases hb
  refine fin (by simp) (by simp) ?_
  split at hp
  ·rename_i hk
   cases hp
   exact ⟨_,by rw [zN,Sem.run_bind,kF hk h]; rfl,rfl⟩
  ·rename_i hk
   cases hp
   exact ⟨_,by rw [zR,Sem.run_bind,kF hk h]; rfl,rfl⟩
  ·cases hp
 ·obtain ⟨b',o',_,rfl⟩:=ha
  cases hb
  refine fin (by simp) (by simp) ?_
  split at hp
  ·rename_i hk
   cases hp
   exact ⟨_,by rw [zN,Sem.run_bind,kF hk h]; rfl,rfl⟩
  ·rename_i hk
   cases hp
   exact ⟨_,by rw [zR,Sem.run_bind,kF hk h]; rfl,rfl⟩
  ·cases hp
 ·cases hp

end
end Go.Am

/- The abstract machine, part 6: the program of part 5 is right. -/
namespace Go.Am
open Go
section
variable {P:Program} {T:TT} {t:mA} {s:aN}

theorem aNR {ty:Nat} {fs:List (Nat×Nat×Nat)} (h:eG P T) (e:lk T.fld ty=some fs) :
  ∃ l:Array Field,P.underlying ty=some (.struct l)∧fs=l.toList.map fun f=>(f.type,f.offset,P.cellsOf f.type):=by
 have:=h.fld' e
 unfold bAi at this
 split at this
 ·rename_i l hl
  cases this
  exact ⟨l,hl,rfl⟩
 ·cases this

theorem aRj {ty n:Nat} (h:P.cellsOf ty=n+1) (w:World):(sizeOf ty).run P w=.ok (n+1) w:=by
 unfold Program.cellsOf at h
 cases hi:P.info? ty with
 | none=>rw [hi] at h; simp at h
 | some i=>rw [hi] at h; simp at h; simp [sizeOf,typeInfo,hi,h]

theorem aRC {ty f fty off n:Nat} {fs} (h:eG P T) (e:lk T.fld ty=some fs) (hf:fs[f]?=some (fty,off,n+1)) (b o:Nat) (w:World) :
  (Instr.fieldAt ty (.pointer (some ⟨b,o,none⟩)) f).run P w=.ok (.pointer (some ⟨b,o+off,none⟩)) w:=by
 obtain ⟨l,h1,h2⟩:=aNR h e
 subst h2
 rw [List.getElem?_map,Option.map_eq_some_iff] at hf
 obtain ⟨g,hg,hg2⟩:=hf
 have hg':l[f]?=some g:=by simpa using hg
 simp only [Prod.mk.injEq] at hg2
 obtain ⟨rfl,rfl,hsz⟩:=hg2
 simp only [Instr.fieldAt,Sem.run_bind,run_underlying h1,Result.andThen_ok,hg',Instr.sureAddr,Sem.run_pure,fieldPlace,aRj hsz,Sem.run_ite]
 rw [if_neg (by simp)]
 simp [add_lit]

theorem aS9 {w:World} {ty off n:Nat} {g:Bool} (h:eG P T) (e:T.lay ty=some (g,n)) (vs:List Value) (hv:g=false→∃ v,vs[off]?=some v) :
  ∃ v,(part ty vs.toArray off).run P w=.ok v w∧(if g then v=.agg ((vs.drop off).take n).toArray else vs[off]?=some v):=by
 obtain ⟨h1,h2⟩:=aNO h e w
 unfold part
 rw [Sem.run_bind,h1]
 simp only [Result.andThen_ok]
 cases g with
 | true =>
  refine ⟨_,by simp only [if_true,Sem.run_bind,h2,Result.andThen_ok,Sem.run_pure]; rfl,?_⟩
  simp only [if_true]
  congr 1
  apply Array.toList_inj.1
  simp only [Array.toList_extract]
  rw [List.extract_eq_take_drop]
  congr 1
  omega
 | false =>
  obtain ⟨v,hv'⟩:=hv rfl
  refine ⟨v,?_,by simpa using hv'⟩
  simp [hv']

theorem VR.agg_of {m:Mu} {i:Io} {cs:List AV} {vs:List Value} (h1:pY vs) (h:VL m i cs vs):VR m i (.agg cs) (.agg vs.toArray):=⟨vs,rfl,h1,h⟩

theorem aYs {α:Type} {l:List α} {x:α} (h:l.head?=some x):l[0]?=some x:=by cases l <;> simp_all

theorem PL.of_parts {m:Mu} {i:Io} {a:Act}:∀ (l:List (Nat×Operand)),(∀ k,Operand.tmp k∈l.map (·.2)→VR m i (t k) (a.tmps.getD k undef)) →
  PL m i (l.map fun p=>(p.1,ev t p.2)) (l.map fun p=>(p.1,a.eval p.2))
 | [],_=>rfl
 | p :: l,h=>⟨_,_,rfl,VR.ev p.2 (fun k hk=>h k (by rw [← hk]; simp)),PL.of_parts l fun k hk=>h k (by simp at hk ⊢; exact .inr hk)⟩

theorem aUm {ty:Nat} {zs:List Value} (h:eG P T) (e:lk T.zero ty=some zs) (w:World):∃ z,(zeroValue ty).run P w=.ok z w∧z.cells.toList=zs:=by
 have:=h.zero' e
 cases hi:P.info? ty with
 | none=>rw [hi] at this; simp at this
 | some i =>
  rw [hi] at this
  cases hz:i.zero with
  | none=>simp [hz] at this
  | some z=>simp [hz] at this; exact ⟨z,by simp [zeroValue,typeInfo,hi,hz],this⟩

theorem aLh {w:World}:∀ (l:List Field),(∀ f∈l,∃ n,(sizeOf f.type).run P w=.ok n w∧P.cellsOf f.type=n) →
  (l.mapM fun f=>do pure (f.offset,← sizeOf f.type):Sem (List (Nat×Nat))).run P w=.ok (l.map fun f=>(f.offset,P.cellsOf f.type)) w
 | [],_=>rfl
 | f :: l,h=>by
  obtain ⟨n,h1,h2⟩:=h f List.mem_cons_self
  have:=aLh l fun g hg=>h g (List.mem_cons_of_mem _ hg)
  simp only [List.mapM_cons,Sem.run_bind,h1,Result.andThen_ok,Sem.run_pure,this,List.map_cons,h2]

theorem aXB {ty:Nat} (h:0<P.cellsOf ty) (w:World):∃ n,(sizeOf ty).run P w=.ok n w∧P.cellsOf ty=n:=by
 cases hn:P.cellsOf ty with
 | zero=>omega
 | succ n=>exact ⟨n+1,aRj hn w,rfl⟩

theorem run_build {ty:Nat} {zs:List Value} {fs:List (Nat×Nat×Nat)} (h:eG P T) (ez:lk T.zero ty=some zs) (ef:lk T.fld ty=some fs) (hall:(fs.all fun f=>Nat.blt 0 f.2.2)=true) (hone:pY zs)
  {m:Mu} {i:Io} {ps:List (Nat×AV)} {qs:Array (Nat×Value)} (hp:PL m i ps qs.toList) {cs:List AV}
  (hf:aGl (fun j=>(fs[j]?).map fun f=>(f.2.1,f.2.2)) (zs.map AV.ofConst) ps=some cs) (w:World) :
  ∃ v,(Instr.build ty qs).run P w=.ok v w∧VR m i (.agg cs) v:=by
 obtain ⟨z,h1,h2⟩:=aUm h ez w
 obtain ⟨l,h3,h4⟩:=aNR h ef
 subst h4
 obtain ⟨vs',h5,h6,h7⟩:=aNI ps qs.toList _ cs zs hp (VL.consts zs) hone hf
 refine ⟨_,?_,vs',rfl,h7,h6⟩
 unfold Instr.build
 simp only [Sem.run_bind,h1,Result.andThen_ok,run_underlying h3]
 have hm:=aLh (P:=P) (w:=w) l.toList fun f hfm=>aXB (by
  have:=List.all_eq_true.1 hall (f.type,f.offset,P.cellsOf f.type) (List.mem_map.2 ⟨f,hfm,rfl⟩)
  simpa using this) w
 rw [← Array.toList_mapM] at hm
 rw [Sem.run_map] at hm
 generalize hr:(Array.mapM (fun (f:Field)=>(do pure (f.offset,← sizeOf f.type):Sem (Nat×Nat))) l).run P w=r at hm
 cases r with
 | halt x y=>cases hm
 | ok pl w1 =>
  simp only [Result.andThen_ok,Result.ok.injEq] at hm
  obtain ⟨hm1,rfl⟩:=hm
  have hpl:(fun (j:Nat)=>pl[j]?)=fun (j:Nat)=>((l.toList.map fun f=>(f.type,f.offset,P.cellsOf f.type))[j]?).map fun f=>(f.2.1,f.2.2):=by
   funext j
   rw [← Array.getElem?_toList,hm1]
   simp
   rfl
  have hz:z.cells=zs.toArray:=by apply Array.toList_inj.1; simpa using h2
  simp only [Result.andThen_ok,hpl,hz,h5]
  rfl

theorem VL.tile {m:Mu} {i:Io} {zs:List Value} (n sz:Nat) (hz:zs.length=sz) :
  VL m i ((List.range (n * sz)).map fun j=>(zs.map AV.ofConst).getD (j % sz) .any) (((Array.range (n * sz)).map fun j=>zs.toArray[j % zs.toArray.size]!).toList):=by
 have gen:∀ (l:List Nat),(∀ j∈l,j % sz<sz)→VL m i (l.map fun j=>(zs.map AV.ofConst).getD (j % sz) .any) (l.map fun j=>zs.toArray[j % zs.toArray.size]!):=by
  intro l
  induction l with
  | nil=>intro _; rfl
  | cons j l ih =>
   intro hl
   refine ⟨_,_,rfl,?_,ih fun k hk=>hl k (List.mem_cons_of_mem _ hk)⟩
   have hj:=hl j List.mem_cons_self
   have hlt:j % sz<zs.length:=by omega
   simp only [List.size_toArray,hz,List.getD_eq_getElem?_getD,List.getElem?_map,List.getElem?_eq_getElem hlt,Option.map_some,Option.getD_some,List.getElem!_toArray,getElem!_pos zs (j % sz) hlt]
   exact VR.ofConst _
 have:=gen (List.range (n * sz)) (fun j hj=>Nat.mod_lt _ (by
  rcases Nat.eq_zero_or_pos sz with h0 | h0
  ·subst h0; simp at hj
  ·exact h0))
 simpa using this

theorem pY.tile {zs:List Value} {n sz:Nat} (h:pY zs) (hz:zs.length=sz):pY (((Array.range (n * sz)).map fun j=>zs.toArray[j % zs.toArray.size]!).toList):=by
 intro v hv
 simp only [Array.toList_map,Array.toList_range,List.mem_map,List.mem_range] at hv
 obtain ⟨j,hj,rfl⟩:=hv
 have hlt:j % zs.length<zs.length:=Nat.mod_lt _ (by
  rcases Nat.eq_zero_or_pos sz with h0 | h0
  ·subst h0; simp at hj
  ·omega)
 simp only [List.size_toArray,List.getElem!_toArray,getElem!_pos zs (j % zs.length) hlt]
 exact h _ (List.getElem_mem hlt)

theorem run_buildSlice {ty e n sz:Nat} {zs:List Value} (h:eG P T) (ek:lk T.kd ty=some (.slice e)) (ez:lk T.zero e=some zs) (es:lk T.sz e=some sz)
  (hle:n * sz≤16777216) (hz:zs.length=sz) (hone:pY zs) {m:Mu} {i:Io} {ps:List (Nat×AV)} {qs:Array (Nat×Value)} (hp:PL m i ps qs.toList) {cs:List AV}
  (hf:aGl (fun j=>some (j * sz,sz)) ((List.range (n * sz)).map fun j=>(zs.map AV.ofConst).getD (j % sz) .any) ps=some cs) (w:World) :
  ∃ vs:List Value,(Instr.buildSlice ty n qs).run P w=.ok (.slice (some ⟨w.heap.size,0,none⟩) n n) (w.alloc (.cells vs.toArray e (0,0)))∧VL m i cs vs∧pY vs:=by
 obtain ⟨d,hd,hdk⟩:=h.under ek (by simp)
 have hd':P.underlying ty=some (.slice e):=by
  cases d <;> simp only [aFg] at hdk <;> first | (cases hdk; done) | (cases hdk; exact hd)
 obtain ⟨i0,hi,hsz⟩:=h.size es
 obtain ⟨z,h1,h2⟩:=aUm h ez w
 have hzc:z.cells=zs.toArray:=by apply Array.toList_inj.1; simpa using h2
 obtain ⟨vs',h5,h6,h7⟩:=aNI ps qs.toList _ cs _ hp (VL.tile n sz hz) (pY.tile hone hz) hf
 refine ⟨vs',?_,h6,h7⟩
 unfold Instr.buildSlice
 have hs1:(sizeOf e).run P w=.ok sz w:=by simp [sizeOf,typeInfo,hi,hsz]
 simp only [Sem.run_bind,run_underlying hd',Result.andThen_ok,hs1]
 rw [if_neg (by omega)]
 by_cases h0:n * sz=0
 ·rw [if_pos h0]
  have harr:((Array.range (n * sz)).map fun j=>(#[]:Array Value)[j % (#[]:Array Value).size]!)=((Array.range (n * sz)).map fun j=>zs.toArray[j % zs.toArray.size]!).toList.toArray:=by rw [h0,Array.toArray_toList]; apply Array.toList_inj.1; simp
  simp only [Sem.run_bind,Sem.run_pure,Result.andThen_ok]
  rw [harr,h5]
  simp [newRow]
 ·rw [if_neg h0]
  have harr:((Array.range (n * sz)).map fun j=>zs.toArray[j % zs.toArray.size]!)=((Array.range (n * sz)).map fun j=>zs.toArray[j % zs.toArray.size]!).toList.toArray:=(Array.toArray_toList).symm
  simp only [Sem.run_bind,Sem.run_pure,Result.andThen_ok,h1,hzc]
  rw [harr,h5]
  simp [newRow]

theorem aLK (h:eG P T) {o:Oper} {av:AV} (hp:pop T t o.op=some av):sP P o t s (fun x y=>x=av∧y=s):=by
 obtain ⟨dst,op,type,pos,after,guard⟩:=o
 have yX:∀ {x:Operand} {a:Act} {m:Mu} {i:Io} {l:Array Operand},(∀ k,Operand.tmp k∈l→VR m i (t k) (a.tmps.getD k undef))→x∈l→VR m i (ev t x) (a.eval x) :=
  fun {x a m i l} h hx=>VR.ev x fun k hk=>h k (hk ▸ hx)
 cases op <;> simp only [pop] at hp <;> first | (cases hp; done) | skip
 case move x=>cases hp; exact fM fun a w m i hr ho=>⟨_,by simp [execOp],yX ho (by simp [Op.operands])⟩
 case assign x=>cases hp; exact fM fun a w m i hr ho=>⟨_,by simp [execOp],yX ho (by simp [Op.operands])⟩
 case pick c x y =>
  split at hp <;> cases hp
  rename_i b hc
  refine fM fun a w m i hr ho=>?_
  have h1:=yX (x:=c) ho (by simp [Op.operands])
  rw [hc] at h1
  have h1':a.eval c=.bool b:=h1
  refine ⟨if b then a.eval x else a.eval y,by simp [execOp,h1',asBool],?_⟩
  cases b
  ·exact yX ho (by simp [Op.operands])
  ·exact yX ho (by simp [Op.operands])
 case nilCheck x =>
  refine fM fun a w m i hr ho=>?_
  have h1:=yX (x:=x) ho (by simp [Op.operands])
  split at hp <;> cases hp
  ·rename_i hc; rw [hc] at h1
   obtain ⟨b,o,h2,h3⟩:=h1
   exact ⟨_,by simp [execOp,h2],b,o,rfl,h3⟩
  ·rename_i k n nm mk ks hc; rw [hc] at h1
   have h4:=jS.tree_node k n nm mk ks _ _ _ h1
   obtain ⟨b,o,h2,h3⟩:=h4
   exact ⟨_,by simp [execOp,h2],b,o,rfl,h3⟩
  ·rename_i hc; rw [hc] at h1
   obtain ⟨b,o,h2,h3⟩:=h1
   exact ⟨_,by simp [execOp,h3],b,o,h2,rfl⟩
  ·rename_i hc; rw [hc] at h1
   obtain ⟨fs,cs,h2,h3⟩:=h1
   exact ⟨_,by simp [execOp,h2],fs,cs,rfl,h3⟩
 case fieldAddr ty x f =>
  split at hp
  ·cases hp
  ·rename_i fs hf
   split at hp
   ·rename_i fty off sz hg
    refine fM fun a w m i hr ho=>?_
    have h1:=yX (x:=x) ho (by simp [Op.operands])
    split at hp <;> cases hp
    ·rename_i hc; rw [hc] at h1
     obtain ⟨b,o,h2,h3⟩:=h1
     exact ⟨_,by simp [execOp,h2,aRC h hf hg],b,o+off,rfl,h3.drop off⟩
    ·rename_i hc; rw [hc] at h1
     obtain ⟨b,c,h2,h3⟩:=h1
     exact ⟨_,by simp [execOp,h3,aRC h hf hg],b,c,h2,rfl⟩
   ·cases hp
 case field ty x f =>
  split at hp
  ·cases hp
  ·rename_i fs hf
   split at hp
   ·rename_i fty off sz hg
    obtain ⟨l,hl1,hl2⟩:=aNR h hf
    subst hl2
    rw [List.getElem?_map,Option.map_eq_some_iff] at hg
    obtain ⟨g,hg1,hg2⟩:=hg
    have hg':l[f]?=some g:=by simpa using hg1
    simp only [Prod.mk.injEq] at hg2
    obtain ⟨rfl,rfl,hsz⟩:=hg2
    split at hp
    ·rename_i cs hc
     refine fM fun a w m i hr ho=>?_
     have h1:=yX (x:=x) ho (by simp [Op.operands])
     rw [hc] at h1
     obtain ⟨vs,h2,h1o,h3⟩:=h1
     split at hp
     ·rename_i n hlay
      cases hp
      obtain ⟨v,h4,h5⟩:=aS9 (w:=w) (off:=g.offset) h hlay vs (fun h=>by cases h)
      refine ⟨v,by simp [execOp,Instr.field,run_underlying hl1,hg',h2,asAgg,h4],?_⟩
      simp only [if_true] at h5
      rw [h5]
      exact VR.agg_of (fun x hx=>h1o x (List.mem_of_mem_drop (List.mem_of_mem_take hx))) ((h3.drop _).take _)
     ·rename_i n hlay
      obtain ⟨u,h6,h7⟩:=h3.get _ _ hp
      obtain ⟨v,h4,h5⟩:=aS9 (w:=w) (off:=g.offset) h hlay vs (fun _=>⟨u,h6⟩)
      refine ⟨v,by simp [execOp,Instr.field,run_underlying hl1,hg',h2,asAgg,h4],?_⟩
      simp only [Bool.false_eq_true,if_false] at h5
      rw [h6] at h5
      cases h5
      exact h7
     ·cases hp
    ·cases hp
   ·cases hp
 case load ty x =>
  split at hp
  ·rename_i cs hc
   refine fM fun a w m i hr ho=>?_
   have h1:=yX (x:=x) ho (by simp [Op.operands])
   rw [hc] at h1
   obtain ⟨b,o,h2,h3⟩:=h1
   split at hp
   ·rename_i n hlay
    split at hp
    ·rename_i hle
     cases hp
     obtain ⟨vs,h4,h5⟩:=(h3.take n).list
     have hlen:vs.length=n:=by
      have:=h4.eq_len
      have hle':n≤cs.length:=Nat.le_of_ble_eq_true hle
      rw [List.length_take] at this; omega
     exact ⟨_,by simp [execOp,h2,aAe h hlay vs hlen (fun k v hk=>(hr.mu _ _ _ (h5 k v hk)).1)],vs,rfl,fun x hx=>(let ⟨k,hk⟩:=List.getElem?_of_mem hx; (hr.mu _ _ _ (h5 k x hk)).2),h4⟩
    ·cases hp
   ·rename_i n hlay
    obtain ⟨v,h4,h5⟩:=h3.get 0 _ (aYs hp)
    have hn:=(TT.lay_inv hlay).choose_spec.2.2.2 rfl
    subst hn
    refine ⟨v,?_,h5⟩
    have:=aAe (w:=w) (b:=b) (o:=o) h hlay [v] rfl (fun k u hk=>by
     cases k with
     | zero=>simp at hk; subst hk; exact (hr.mu _ _ _ h4).1
     | succ k=>simp at hk)
    simp [execOp,h2,this]
   ·cases hp
  ·cases hp
 case binOp op ty x y yt =>
  refine fM fun a w m i hr ho=>?_
  obtain ⟨v,h1,h2⟩:=bEo h hp (yX (x:=x) ho (by simp [Op.operands])) (yX (x:=y) ho (by simp [Op.operands])) x y w
  refine ⟨v,?_,h2⟩
  simp only [execOp]
  rw [Sem.run_bind] at h1 ⊢
  rw [Sem.run_bind,h1]
  rfl
 case unOp op ty x =>
  cases op <;> simp only at hp <;> first | (cases hp; done) | skip
  ·refine fM fun a w m i hr ho=>?_
   have h1:=yX (x:=x) ho (by simp [Op.operands])
   split at hp <;> cases hp
   rename_i hc; rw [hc] at h1
   have h1':a.eval x=_:=h1
   exact ⟨_,by simp [execOp,h1',Op.unary,Op.intArith],rfl⟩
  ·refine fM fun a w m i hr ho=>?_
   have h1:=yX (x:=x) ho (by simp [Op.operands])
   split at hp <;> cases hp
   rename_i hc; rw [hc] at h1
   have h1':a.eval x=_:=h1
   exact ⟨_,by simp [execOp,h1',Op.unary],rfl⟩
 case convert src dst x =>
  refine fM fun a w m i hr ho=>?_
  have h1:=yX (x:=x) ho (by simp [Op.operands])
  split at hp <;> cases hp
  ·rename_i hs hd hc; rw [hc] at h1
   have h1':a.eval x=_:=h1
   obtain ⟨d1,e1,e2⟩:=h.under hs (by simp)
   obtain ⟨d2,e3,e4⟩:=h.under hd (by simp)
   cases d2 <;> simp only [aFg] at e4 <;> first | (cases e4; done) | skip
   cases e4
   cases d1 <;> simp only [aFg] at e2 <;> first | (cases e2; done) | skip
   exact ⟨_,by simp [execOp,convert,run_underlying e1,run_underlying e3,h1',Conv.intToInt],rfl⟩
  ·rename_i hs hd hc; rw [hc] at h1
   have h1':a.eval x=_:=h1
   obtain ⟨d1,e1,e2⟩:=h.under hs (by simp)
   obtain ⟨d2,e3,e4⟩:=h.under hd (by simp)
   cases d2 <;> simp only [aFg] at e4 <;> first | (cases e4; done) | skip
   cases d1 <;> simp only [aFg] at e2 <;> first | (cases e2; done) | skip
   exact ⟨_,by simp [execOp,convert,run_underlying e1,run_underlying e3,h1'],rfl⟩
 case makeFunc f fi ca =>
  cases hp
  refine fM fun a w m i hr ho=>?_
  refine ⟨.func f (fi.map a.eval) (ca.map a.eval),by simp [execOp,Instr.makeFunc],fi.toList.map a.eval,ca.toList.map a.eval,by rw [← Array.toList_map,← Array.toList_map],?_,?_⟩
  ·exact VL.map_ev _ fun k hk=>ho k (by simp [Op.operands]; exact .inl (by simpa using hk))
  ·exact VL.map_ev _ fun k hk=>ho k (by simp [Op.operands]; exact .inr (by simpa using hk))
 case extract x j =>
  refine fM fun a w m i hr ho=>?_
  have h1:=yX (x:=x) ho (by simp [Op.operands])
  split at hp
  ·rename_i l hc; rw [hc] at h1
   obtain ⟨vs,h2,h3⟩:=h1
   obtain ⟨u,h4,h5⟩:=h3.get _ _ hp
   exact ⟨u,by simp [execOp,Instr.extract,h2,h4],h5⟩
  ·cases hp
 case build ty ps =>
  split at hp
  ·rename_i zs fs hz hf
   split at hp
   ·cases hp
   ·rename_i hall
    simp only [Bool.not_eq_false,Bool.and_eq_true] at hall
    rw [Option.map_eq_some_iff] at hp
    obtain ⟨cs,hp,rfl⟩:=hp
    refine fM fun a w m i hr ho=>?_
    have hpl:PL m i (aHc t ps) (ps.map fun (p:Nat×Operand)=>(p.1,a.eval p.2)).toList:=by
     rw [Array.toList_map]
     exact PL.of_parts _ fun k hk=>ho k (by simpa [Op.operands] using hk)
    obtain ⟨v,h1,h2⟩:=run_build h hz hf hall.1 (fun v hv=>List.all_eq_true.1 hall.2 v hv) hpl hp w
    exact ⟨v,by simp only [execOp,Sem.run_bind,h1]; rfl,h2⟩
  ·cases hp
 case box e x =>
  refine aSD fun a w m i hr ho=>?_
  have h1:=yX (x:=x) ho (by simp [Op.operands])
  have key:∀ c:AV,ev t x=c→(c.scalar=true∨∃ cs,c=.agg cs)→av=.ptr c.cells →
    ∃ v w' m' i',(execOp a.eval ⟨dst,.box e x,type,pos,after,guard⟩).run P w=.ok (.value v) w'∧VR m' i' av v∧nX w' m' i' s∧Step w m i s w' m' i' s:=by
   intro c hc hs hav
   rw [hc] at h1
   obtain ⟨hl,hl1⟩:=h1.cells hs
   obtain ⟨r1,r2⟩:=hr.make e (a.eval x).cells.toList w.drawn hl1
   refine ⟨.pointer (some ⟨w.heap.size,0,none⟩),_,_,i,?_,?_,r1,r2⟩
   ·simp [execOp,Instr.box,newVar,newRow]
    rfl
   ·rw [hav]
    exact ⟨_,_,rfl,hr.made hl⟩
  split at hp
  ·rename_i cs hc
   cases hp
   exact key _ hc (.inr ⟨cs,rfl⟩) rfl
  ·rename_i hne
   split at hp <;> cases hp
   rename_i hsc
   refine key _ rfl (.inl hsc) ?_
   cases hv:ev t x <;> first | rfl | (rw [hv] at hsc; cases hsc)
 case buildSlice ty n ps =>
  split at hp
  ·rename_i e hk
   split at hp
   ·rename_i zs sz hz hs
    split at hp
    ·rename_i hb
     rw [Option.map_eq_some_iff] at hp
     obtain ⟨cs,hp,rfl⟩:=hp
     simp only [Bool.and_eq_true] at hb
     refine aSD fun a w m i hr ho=>?_
     have hpl:PL m i (aHc t ps) (ps.map fun (p:Nat×Operand)=>(p.1,a.eval p.2)).toList:=by
      rw [Array.toList_map]
      exact PL.of_parts _ fun k hk=>ho k (by simpa [Op.operands] using hk)
     have hle:n * sz≤16777216:=Nat.le_of_ble_eq_true hb.1.1.1
     obtain ⟨vs,h1,h2,h3⟩:=run_buildSlice h hk hz hs hle (Nat.eq_of_beq_eq_true hb.1.1.2) (fun v hv=>List.all_eq_true.1 hb.2 v hv) hpl hp w
     obtain ⟨r1,r2⟩:=hr.make e vs w.drawn h3
     refine ⟨_,_,_,i,by simp only [execOp,Sem.run_bind,h1]; rfl,?_,r1,r2⟩
     refine .inr ⟨_,_,n,rfl,Nat.le_refl _,?_,fun _=>rfl,hr.made h2⟩
     have:=Nat.le_of_ble_eq_true hb.1.2
     unfold maxLen
     omega
    ·cases hp
   ·cases hp
  ·cases hp
 case call c =>
  obtain ⟨callee,args,tys⟩:=c
  cases callee <;> simp only at hp <;> first | (cases hp; done) | skip
  rename_i b
  refine fM fun a w m i hr ho=>?_
  have hargs:∀ x∈args.toList,VR m i (ev t x) (a.eval x):=fun x hx=>yX ho (by simp [Op.operands,Call.operands]; simpa using hx)
  have harr:∀ {l:List Operand},args.toList=l→args.map a.eval=(l.map a.eval).toArray:=by intro l hl; apply Array.toList_inj.1; simp [hl]
  unfold aHV at hp
  split at hp
  ·rename_i x ty hx hty
   have h1:=hargs x (by rw [hx]; simp)
   have hty':tys[0]?=some ty:=by rw [← Array.getElem?_toList,hty]; rfl
   have hx':=harr hx
   have len_slice:∀ {e:Nat} {ao:Option Addr} {n c:Nat},lk T.kd ty=some (.slice e)→a.eval x=.slice ao n c→av=.i n →
     ∃ v,(execOp a.eval ⟨dst,.call ⟨.builtin .len,args,tys⟩,type,pos,after,guard⟩).run P w=.ok (.value v) w∧VR m i av v:=by
    intro e ao n c hk hc hav
    obtain ⟨d,hd,hdk⟩:=h.under hk (by simp)
    refine ⟨.int .i64 n,?_,by rw [hav]; rfl⟩
    cases d <;> simp only [aFg] at hdk <;> first | (cases hdk; done) | skip
    simp [execOp,resolve,invoke,builtin,Builtin.len_,hx',hty',hc,run_underlying hd,goInt]
   split at hp <;> cases hp
   ·rename_i l hk hc; rw [hc] at h1
    have h1':a.eval x=_:=h1
    obtain ⟨d,hd,hdk⟩:=h.under hk (by simp)
    refine ⟨_,?_,rfl⟩
    cases d <;> simp only [aFg] at hdk <;> first | (cases hdk; done) | skip
    simp [execOp,resolve,invoke,builtin,Builtin.len_,hx',hty',h1',run_underlying hd,goInt]
   ·rename_i e hk hc; rw [hc] at h1
    exact len_slice (n:=0) hk h1 rfl
   ·rename_i e cs n fu hk hc; rw [hc] at h1
    rcases h1 with ⟨h2,h3,q,h4⟩ | ⟨b,o,cap,h2,_⟩
    ·exact len_slice hk h4 (by rw [h2])
    ·exact len_slice hk h2 rfl
   ·rename_i e cs n fu hk hc; rw [hc] at h1
    rcases h1 with ⟨h2,h3,q,h4⟩ | ⟨b,o,cap,h2,_⟩
    ·exact len_slice hk h4 (by rw [h2])
    ·exact len_slice hk h2 rfl
   ·rename_i e id n hk hc; rw [hc] at h1
    rcases h1 with ⟨h2,h3,h4⟩ | ⟨b,cap,h2,h3,h4⟩
    ·exact len_slice hk h4 (by rw [h3])
    ·exact len_slice hk h4 rfl
  ·rename_i x y hx
   have h1:=hargs x (by rw [hx]; simp)
   have h2:=hargs y (by rw [hx]; simp)
   have hx':=harr hx
   split at hp <;> cases hp
   rename_i hc hd; rw [hc] at h1; rw [hd] at h2
   have h1':a.eval x=_:=h1
   have h2':a.eval y=_:=h2
   exact ⟨_,by simp [execOp,resolve,invoke,builtin,Builtin.min_,hx',h1',h2',Builtin.min2],rfl⟩
  ·rename_i x y hx
   have h1:=hargs x (by rw [hx]; simp)
   have h2:=hargs y (by rw [hx]; simp)
   have hx':=harr hx
   split at hp <;> cases hp
   rename_i hc hd; rw [hc] at h1; rw [hd] at h2
   have h1':a.eval x=_:=h1
   have h2':a.eval y=_:=h2
   exact ⟨_,by simp [execOp,resolve,invoke,builtin,Builtin.max_,hx',h1',h2',Builtin.max2],rfl⟩
  ·cases hp

end
end Go.Am

/- The abstract machine, part 7: regions in the order of the text: many plain operations at once; one operation. -/
namespace Go.Am
open Go

def gd (ops:Array Oper) (t:mA) (o:Oper):Option Bool :=
 match o.guard with
 | none=>some true
 | some (j,want)=>match (ops[j]?).bind (·.dst) with
  | none=>none
  | some d=>match t d with
   | .lit (.bool b)=>some (b == want)
   | .lit (.tuple _)=>some false
   | _=>none

def bCk (T:TT) (n:Nat) (ops:Array Oper):List Oper→mA→Option mA
 | [],t=>some t
 | o :: l,t =>
  match inB o.dst n with
  | false=>none
  | true=>match gd ops t o with
   | none=>none
   | some false=>bCk T n ops l (t.put o.dst (.lit undef))
   | some true=>match pop T t o.op with
    | none=>none
    | some v=>bCk T n ops l (t.put o.dst v)

def aRp (live:List (Nat×AV)):mA:=fun k=>(lk live k).getD .any

def look (r:Option mA) (ks:List Nat):Option (List AV):=r.map fun t=>ks.map t

section
variable {P:Program} {T:TT} {n:Nat} {t:mA} {s:aN}

theorem aH8 {ops:Array Oper} {o:Oper} {b:Bool} (hg:gd ops t o=some b) {m:Mu} {i:Io} {a:Act} (ht:TR m i t a):Region.wanted o (yielded ops a.tmps)=b:=by
 unfold gd at hg
 unfold Region.wanted
 split at hg
 ·rename_i h; rw [h]; cases hg; rfl
 ·rename_i j want h
  rw [h]
  split at hg
  ·cases hg
  ·rename_i d hd
   split at hg
   ·rename_i c hc
    have hgc:b=(c == want):=by cases hg; rfl
    subst hgc
    have h1:=ht d
    rw [hc] at h1
    have h2:a.tmps.getD d undef=.bool c:=h1
    have h3:a.tmps[d]?=some (.bool c):=by
     rw [Array.getD_eq_getD_getElem?] at h2
     cases he:a.tmps[d]? with
     | none=>rw [he] at h2; simp [undef] at h2
     | some v=>rw [he] at h2; simp at h2; rw [h2]
    simp only [yielded,hd,Option.bind_some,h3]
    cases c <;> cases want <;> rfl
   ·rename_i c hc
    cases hg
    have h1:=ht d
    rw [hc] at h1
    have h2:a.tmps.getD d undef=.tuple c:=h1
    have h3:a.tmps[d]?=none∨a.tmps[d]?=some (.tuple c):=by
     rw [Array.getD_eq_getD_getElem?] at h2
     cases he:a.tmps[d]? with
     | none=>exact .inl rfl
     | some v=>rw [he] at h2; simp at h2; rw [h2]; exact .inr rfl
    simp only [yielded,hd,Option.bind_some]
    rcases h3 with h3 | h3 <;> rw [h3] <;> rfl
   ·cases hg

theorem aI3 (h:eG P T) {ops:Array Oper} {l2:List Oper} {Q:mA→aN→Prop}:∀ (l1:List Oper) (t t':mA),bCk T n ops l1 t=some t' →
  aXp P n ops l2 Q t' s→aXp P n ops (l1++l2) Q t s
 | [],t,t',hp,k=>by cases hp; exact k
 | o :: l1,t,t',hp,k=>by
  simp only [bCk] at hp
  split at hp
  ·cases hp
  ·rename_i hd
   split at hp
   ·cases hp
   ·rename_i hg
    intro a w m i h1 h2 h3 h4 w0 m0 i0 s0 Q' hq hs
    show wpList P ops _ (o :: (l1++l2)) a w
    unfold wpList
    rw [if_neg (by rw [aH8 hg h2]; simp)]
    exact aI3 h l1 _ t' hp k _ w m i h1 (h2.put (h3 ▸ aN6 hd) rfl) (size_put.trans h3) (aAr.trans h4) w0 m0 i0 s0 Q' hq hs
   ·rename_i hg
    split at hp
    ·cases hp
    ·rename_i v hv
     intro a w m i h1 h2 h3 h4 w0 m0 i0 s0 Q' hq hs
     show wpList P ops _ (o :: (l1++l2)) a w
     unfold wpList
     rw [if_pos (aH8 hg h2)]
     refine .inl (aLK h hv a w m i h1 (fun k _=>h2 k) _ _ ?_)
     rintro u w' av s' m' i' ⟨q1,q2⟩ hu hr hst
     rw [q1] at hu
     rw [q2] at hr hst
     exact aI3 h l1 _ t' hp k _ w' m' i' hr ((h2.mono hst.mu hst.io).put (h3 ▸ aN6 hd) hu) (size_put.trans h3) (aAr.trans h4) w0 m0 i0 s0 Q' hq (hs.trans hst)

theorem TR.sub {m:Mu} {i:Io} {t t':mA} {a:Act} (h:TR m i t a) (hs:∀ k,t' k=.any∨t' k=t k):TR m i t' a:=by
 intro k
 rcases hs k with e | e
 ·rw [e]; trivial
 ·rw [e]; exact h k

theorem aQc {t:mA}:∀ (live:List (Nat×AV)),(live.map (·.1)).map t=live.map (·.2)→∀ k,aRp live k=.any∨aRp live k=t k
 | [],_,k=>.inl rfl
 | (j,v) :: l,h,k=>by
  simp only [List.map_cons,List.cons.injEq] at h
  unfold aRp lk
  by_cases e:k=j
  ·subst e; rw [eB]; exact .inr h.1.symm
  ·rw [fN e]; exact aQc l h.2 k

def AAt (P:Program) (n:Nat) (ops:Array Oper) (j:Nat) (Q:mA→aN→Prop) (t:mA) (s:aN):Prop:=aXp P n ops (ops.toList.drop j) Q t s

theorem mL {id:Nat} {ops:Array Oper} {Q:lZ} (h:AAt P n ops 0 (Q .normal) t s):AWp P n (.region id ops false) Q t s:=by
 intro a w m i h1 h2 h3 h4
 exact wp_region_list (h a w m i h1 h2 h3 h4 w m i s Q (fun _ _ h=>h) (Step.refl _ _ _ _))

theorem jW (h:eG P T) {ops:Array Oper} {j:Nat} (j':Nat) {Q:mA→aN→Prop} (live:List (Nat×AV)) (hj:Nat.ble j j'=true)
  (hp:look (bCk T n ops ((ops.toList.drop j).take (j' - j)) t) (live.map (·.1))=some (live.map (·.2))) (k:AAt P n ops j' Q (aRp live) s):AAt P n ops j Q t s:=by
 have hj':j≤j':=Nat.le_of_ble_eq_true hj
 unfold AAt
 cases hr:bCk T n ops ((ops.toList.drop j).take (j' - j)) t with
 | none=>rw [hr] at hp; simp [look] at hp
 | some t' =>
  rw [hr] at hp
  simp only [look,Option.map_some,Option.some.injEq] at hp
  have hd:ops.toList.drop j=(ops.toList.drop j).take (j' - j)++ops.toList.drop j':=by
   have:=(List.take_append_drop (j' - j) (ops.toList.drop j)).symm
   rw [List.drop_drop,show j+(j' - j)=j' from by omega] at this
   exact this
  rw [hd]
  refine aI3 h _ t t' hr ?_
  intro a w m i h1 h2
  exact k a w m i h1 (h2.sub (aQc live hp))

theorem nN {ops:Array Oper} {j:Nat} {Q:mA→aN→Prop} (hj:Nat.ble ops.size j=true) (h:Q t s):AAt P n ops j Q t s:=by
 unfold AAt
 rw [List.drop_of_length_le (by have:=Nat.le_of_ble_eq_true hj; simpa using this)]
 exact bEk h

theorem aLE {ops:Array Oper} {j:Nat} {Q:mA→aN→Prop} {R:AV→aN→Prop} {o:Oper} (ho:ops[j]?=some o) (hd:inB o.dst n=true) (hg:gd ops t o=some true) (h:sP P o t s R)
  (k:∀ av s',R av s'→AAt P n ops (j+1) Q (t.put o.dst av) s'):AAt P n ops j Q t s:=by
 unfold AAt
 have hj:j<ops.toList.length:=by have:=(Array.getElem?_eq_some_iff.1 ho).1; simpa using this
 have ho':ops.toList[j]=o:=by have:=(Array.getElem?_eq_some_iff.1 ho).2; simpa using this
 rw [List.drop_eq_getElem_cons hj,ho']
 intro a w m i h1 h2 h3 h4 w0 m0 i0 s0 Q' hq hs
 unfold wpList
 rw [if_pos (aH8 hg h2)]
 refine .inl (h a w m i h1 (fun k _=>h2 k) _ _ ?_)
 intro v w' av s' m' i' hR hv hr hst
 exact k av s' hR _ w' m' i' hr ((h2.mono hst.mu hst.io).put (h3 ▸ aN6 hd) hv) (size_put.trans h3) (aAr.trans h4) w0 m0 i0 s0 Q' hq (hs.trans hst)

theorem at_one {ops:Array Oper} {j:Nat} {Q:mA→aN→Prop} {av:AV} {s':aN} {o:Oper} (ho:ops[j]?=some o) (hd:inB o.dst n=true) (hg:gd ops t o=some true) (h:sP P o t s (fun x y=>x=av∧y=s'))
  (k:AAt P n ops (j+1) Q (t.put o.dst av) s'):AAt P n ops j Q t s :=
 aLE ho hd hg h (by rintro _ _ ⟨rfl,rfl⟩; exact k)

/-! ### operations that are checked -/
theorem aAK (h:eG P T) {ty e:Nat} (hk:lk T.kd ty=some (.slice e)):P.underlying ty=some (.slice e):=by
 obtain ⟨d,hd,hdk⟩:=h.under hk (by simp)
 cases d <;> simp only [aFg] at hdk <;> first | (cases hdk; done) | (cases hdk; exact hd)

theorem isString (h:eG P T) {ty:Nat} (hk:lk T.kd ty=some .string):P.underlying ty=some .string:=by
 obtain ⟨d,hd,hdk⟩:=h.under hk (by simp)
 cases d <;> simp only [aFg] at hdk <;> first | (cases hdk; done) | exact hd

theorem yX {x:Operand} {a:Act} {m:Mu} {i:Io} {l:Array Operand} (h:∀ k,Operand.tmp k∈l→VR m i (t k) (a.tmps.getD k undef)) (hx:x∈l):VR m i (ev t x) (a.eval x) :=
 VR.ev x fun k hk=>h k (hk ▸ hx)

theorem aJd (h:eG P T) {o:Oper} {ty e sz:Nat} {x y:Operand} {cs:List AV} {n:Nat} {fu:Bool} {k:IntKind} {j:Int} (ho:o.op=.indexAddr ty x y) (hk:lk T.kd ty=some (.slice e)) (hsz:lk T.sz e=some sz)
  (hx:ev t x=.slc cs n fu) (hy:ev t y=.lit (.int k j)) (h0:0≤j) (h1:j<n):sP P o t s (fun v z=>v=.ptr (cs.drop (j.toNat * sz))∧z=s):=by
 refine fM fun a w m i hr hop=>?_
 rw [ho] at hop
 have v1:=yX (x:=x) hop (by simp [Op.operands])
 have v2:=yX (x:=y) hop (by simp [Op.operands])
 rw [hx] at v1; rw [hy] at v2
 have v2':a.eval y=.int k j:=v2
 obtain ⟨i0,hi,hs⟩:=h.size hsz
 rcases v1 with ⟨hn,_⟩ | ⟨b,o',cap,e1,e2,e2',e3,e4⟩
 ·omega
 ·refine ⟨.pointer (some ⟨b,o' + j.toNat * sz,none⟩),?_,b,o' + j.toNat * sz,rfl,e4.drop _⟩
  simp [execOp,ho,Instr.indexAt,v2',asIntOf,run_underlying (aAK h hk),e1,h0,h1,sizeOf,typeInfo,hi,hs,add_lit]

theorem aWR (h:eG P T) {o:Oper} {ty:Nat} {x y:Operand} {l:List UInt8} {k:IntKind} {j:Int} {c:UInt8} (ho:o.op=.index ty x y) (hk:lk T.kd ty=some .string)
  (hx:ev t x=.s l) (hy:ev t y=.lit (.int k j)) (h0:0≤j) (h1:l[j.toNat]?=some c):sP P o t s (fun v z=>v=.lit (.int .u8 c.toNat)∧z=s):=by
 refine fM fun a w m i hr hop=>?_
 rw [ho] at hop
 have v1:=yX (x:=x) hop (by simp [Op.operands])
 have v2:=yX (x:=y) hop (by simp [Op.operands])
 rw [hx] at v1; rw [hy] at v2
 have v1':a.eval x=.string ⟨l.toArray⟩:=v1
 have v2':a.eval y=.int k j:=v2
 refine ⟨_,?_,rfl⟩
 have hg:(⟨l.toArray⟩:ByteArray)[j.toNat]?=some c:=by
  have hlt:=(List.getElem?_eq_some_iff.1 h1)
  obtain ⟨hl,he⟩:=hlt
  have hs:j.toNat<(⟨l.toArray⟩:ByteArray).size:=by simpa [ByteArray.size] using hl
  rw [getElem?_pos (⟨l.toArray⟩:ByteArray) j.toNat hs]
  exact congrArg some he
 simp [execOp,ho,Instr.index,v1',v2',asIntOf,run_underlying (isString h hk),h0,hg]

theorem aO0 {lo:Option Operand} {d a1:Int} {a:Act} {m:Mu} {i:Io} (h:(lo.map (ev t)).getD (.i d)=.i a1) (hop:∀ y,lo=some y→VR m i (ev t y) (a.eval y)) :
  (lo=none∧a1=d)∨∃ y,lo=some y∧a.eval y=.int .i64 a1:=by
 cases lo with
 | none=>simp at h; exact .inl ⟨rfl,h.symm⟩
 | some y =>
  simp at h
  have:=hop y rfl
  rw [h] at this
  exact .inr ⟨y,rfl,this⟩

theorem aTu {lo hi:Option Value} {len cap:Nat} {a1 b1:Int} (isSlice:Bool) (hlo:(lo=none∧a1=0)∨lo=some (.int .i64 a1)) (hhi:(hi=none∧b1=len)∨hi=some (.int .i64 b1))
  (h0:0≤a1) (h1:a1≤b1) (h2:b1≤len) (hc:len≤cap) (w:World):(Instr.sliceBounds isSlice len cap lo hi none).run P w=.ok (a1.toNat,b1.toNat,cap) w:=by
 have eb:(b1.toNat:Int)=b1:=Int.toNat_of_nonneg (by omega)
 rcases hlo with ⟨rfl,rfl⟩ | rfl <;> rcases hhi with ⟨rfl,rfl⟩ | rfl
 ·simp [Instr.sliceBounds]
 ·simp [Instr.sliceBounds,run_sliceBound _ _ _ _ _ (show 0≤b1 by omega) (show b1≤(cap:Int) by omega)]
 ·simp [Instr.sliceBounds,run_sliceBound _ _ _ _ _ (show 0≤a1 by omega) (show a1≤(len:Int) by omega)]
 ·simp [Instr.sliceBounds,run_sliceBound _ _ _ _ _ (show 0≤b1 by omega) (show b1≤(cap:Int) by omega),run_sliceBound _ _ _ _ _ (show 0≤a1 by omega) (show a1≤(b1.toNat:Int) by omega)]

theorem aWJ {α:Type} (l:List α) (a b:Nat):l.extract a b=(l.take b).drop a:=by
 rw [List.extract_eq_take_drop,List.drop_take]

theorem aXt (h:eG P T) {o:Oper} {ty:Nat} {x:Operand} {lo hi:Option Operand} {l:List UInt8} {a1 b1:Int} (ho:o.op=.slice ty x lo hi none) (hk:lk T.kd ty=some .string)
  (hx:ev t x=.s l) (hlo:(lo.map (ev t)).getD (.i 0)=.i a1) (hhi:(hi.map (ev t)).getD (.i l.length)=.i b1) (h0:0≤a1) (h1:a1≤b1) (h2:b1≤l.length) :
  sP P o t s (fun v z=>v=.s ((l.take b1.toNat).drop a1.toNat)∧z=s):=by
 refine fM fun a w m i hr hop=>?_
 rw [ho] at hop
 have v1:=yX (x:=x) hop (by simp [Op.operands])
 rw [hx] at v1
 have v1':a.eval x=.string ⟨l.toArray⟩:=v1
 have hsz:(⟨l.toArray⟩:ByteArray).size=l.length:=by simp [ByteArray.size]
 have ext:(⟨l.toArray⟩:ByteArray).extract a1.toNat b1.toNat=⟨((l.take b1.toNat).drop a1.toNat).toArray⟩:=by
  apply ByteArray.ext
  apply Array.toList_inj.1
  rw [ByteArray.data_extract,Array.toList_extract]
  exact aWJ _ _ _
 have e1:=aO0 (a:=a) (m:=m) (i:=i) hlo fun y hy=>yX (x:=y) hop (by simp [Op.operands,hy])
 have e2:=aO0 (a:=a) (m:=m) (i:=i) hhi fun y hy=>yX (x:=y) hop (by simp [Op.operands,hy])
 refine ⟨.string ((⟨l.toArray⟩:ByteArray).extract a1.toNat b1.toNat),?_,by rw [ext]; rfl⟩
 have hund:=isString h hk
 have hb:=aTu (P:=P) (lo:=lo.map a.eval) (hi:=hi.map a.eval) (len:=(⟨l.toArray⟩:ByteArray).size) (cap:=(⟨l.toArray⟩:ByteArray).size) (a1:=a1) (b1:=b1) false
  (by rcases e1 with ⟨rfl,rfl⟩ | ⟨y,rfl,hy⟩ <;> simp [*]) (by rcases e2 with ⟨rfl,rfl⟩ | ⟨y,rfl,hy⟩ <;> simp [*]) h0 h1 (by rw [hsz]; exact h2) (Nat.le_refl _) w
 simp [execOp,ho,Instr.sliceAt,run_underlying hund,Instr.slice,v1',hb]

theorem aXD (h:eG P T) {o:Oper} {ty e sz:Nat} {x:Operand} {lo hi:Option Operand} {cs:List AV} {n:Nat} {fu:Bool} {a1 b1:Int} (ho:o.op=.slice ty x lo hi none) (hk:lk T.kd ty=some (.slice e)) (hsz:lk T.sz e=some sz)
  (hx:ev t x=.slc cs n fu) (hlo:(lo.map (ev t)).getD (.i 0)=.i a1) (hhi:(hi.map (ev t)).getD (.i n)=.i b1) (h0:0≤a1) (h1:a1≤b1) (h2:b1≤n) :
  sP P o t s (fun v z=>v=.slc ((cs.take (b1.toNat * sz)).drop (a1.toNat * sz)) (b1.toNat - a1.toNat) false∧z=s):=by
 refine fM fun a w m i hr hop=>?_
 rw [ho] at hop
 have v1:=yX (x:=x) hop (by simp [Op.operands])
 rw [hx] at v1
 obtain ⟨i0,hi0,hs⟩:=h.size hsz
 have hund:=aAK h hk
 have e1:=aO0 (a:=a) (m:=m) (i:=i) hlo fun y hy=>yX (x:=y) hop (by simp [Op.operands,hy])
 have e2:=aO0 (a:=a) (m:=m) (i:=i) hhi fun y hy=>yX (x:=y) hop (by simp [Op.operands,hy])
 have hb:=fun (cap:Nat) (hc:n≤cap)=>aTu (P:=P) (lo:=lo.map a.eval) (hi:=hi.map a.eval) (len:=n) (cap:=cap) (a1:=a1) (b1:=b1) true
  (by rcases e1 with ⟨rfl,rfl⟩ | ⟨y,rfl,hy⟩ <;> simp [*]) (by rcases e2 with ⟨rfl,rfl⟩ | ⟨y,rfl,hy⟩ <;> simp [*]) h0 h1 h2 hc w
 rcases v1 with ⟨rfl,rfl,q,v1⟩ | ⟨b,o',cap,v1,v2,v2',v3,v4⟩
 ·have ha:a1.toNat=0:=by omega
  have hb1:b1.toNat=0:=by omega
  refine ⟨.slice q 0 0,?_,.inl ⟨by omega,by simp,q,rfl⟩⟩
  simp [execOp,ho,Instr.sliceAt,run_underlying hund,Instr.slice,v1,hb 0 (Nat.le_refl _),ha,hb1,sizeOf,typeInfo,hi0,hs]
 ·by_cases hca:cap=a1.toNat
  ·have hbn:b1.toNat=a1.toNat:=by omega
   refine ⟨.slice (some ⟨b,o',none⟩) (b1.toNat - a1.toNat) (cap - a1.toNat),?_,.inr ⟨b,o',_,rfl,by omega,by omega,fun hf=>(by cases hf),?_⟩⟩
   ·have hb':=hb cap v2
    rw [hca] at hb' v1
    simp [execOp,ho,Instr.sliceAt,run_underlying hund,Instr.slice,v1,hb',hca,sizeOf,typeInfo,hi0,hs]
   ·rw [hbn,List.drop_of_length_le (by rw [List.length_take]; omega)]
    trivial
  ·refine ⟨.slice (some ⟨b,o' + a1.toNat * sz,none⟩) (b1.toNat - a1.toNat) (cap - a1.toNat),?_,.inr ⟨b,_,_,rfl,by omega,by omega,fun hf=>(by cases hf),(v4.take _).drop _⟩⟩
   simp [execOp,ho,Instr.sliceAt,run_underlying hund,Instr.slice,v1,hb cap v2,hca,sizeOf,typeInfo,hi0,hs,add_lit]
end
end Go.Am

/- The abstract machine, part 8: views of one value; the store's objects: read, written, made, sealed. -/
namespace Go.Am
open Go

def WL:List AV→List AV→Prop
 | [],l=>l=[]
 | x :: xs,l=>∃ y ys,l=y :: ys∧jS x y∧WL xs ys
theorem WL.refl:∀ l,WL l l
 | []=>rfl
 | x :: xs=>⟨x,xs,rfl,jS.refl x,WL.refl xs⟩
theorem WL.nil:WL [] []:=rfl
theorem WL.cons {x y:AV} {xs ys:List AV} (h:jS x y) (k:WL xs ys):WL (x :: xs) (y :: ys):=⟨y,ys,rfl,h,k⟩
theorem WL.same {x:AV} {xs ys:List AV} (k:WL xs ys):WL (x :: xs) (x :: ys):=⟨x,ys,rfl,jS.refl x,k⟩
theorem WL.vl {m:Mu} {i:Io}:∀ {xs ys:List AV} {vs:List Value},WL xs ys→VL m i xs vs→VL m i ys vs
 | [],_,_,h,k=>by rw [h]; exact k
 | x :: xs,_,vs,⟨y,ys,h1,h2,h3⟩,⟨v,vs',k1,k2,k3⟩=>by subst h1; exact ⟨v,vs',k1,h2 _ _ _ k2,WL.vl h3 k3⟩
theorem WL.vc {m:Mu} {i:Io}:∀ {xs ys:List AV} {b o:Nat},WL xs ys→VC m i xs b o→VC m i ys b o
 | [],_,_,_,h,k=>by rw [h]; exact k
 | x :: xs,_,b,o,⟨y,ys,h1,h2,h3⟩,⟨⟨v,k1,k2⟩,k3⟩=>by subst h1; exact ⟨⟨v,k1,h2 _ _ _ k2⟩,WL.vc h3 k3⟩
theorem jS.ptr {xs ys:List AV} (h:WL xs ys):jS (.ptr xs) (.ptr ys):=fun _ _ _ ⟨b,o,h1,h2⟩=>⟨b,o,h1,h.vc h2⟩
theorem jS.agg {xs ys:List AV} (h:WL xs ys):jS (.agg xs) (.agg ys):=fun _ _ _ ⟨vs,h1,h0,h2⟩=>⟨vs,h1,h0,h.vl h2⟩
theorem jS.tup {xs ys:List AV} (h:WL xs ys):jS (.tup xs) (.tup ys):=fun _ _ _ ⟨vs,h1,h2⟩=>⟨vs,h1,h.vl h2⟩
theorem jS.ptr_take (xs ys:List AV):jS (.ptr (xs++ys)) (.ptr xs):=fun m i _ ⟨b,o,h1,h2⟩=>⟨b,o,h1,by have:=VC.take xs.length h2; rwa [List.take_left] at this⟩
section
variable {P:Program} {T:TT} {n:Nat} {t:mA} {s:aN}

/-! ### objects -/
theorem nX.row {w m i} (h:nX w m i s) {j id e sz:Nat} {cs:List AV} {fz:Nat} (hj:s[j]?=some (id,.row e sz cs fz)) {b cap:Nat} (hi:i id=some (some (b,cap))) :
  ∃ vs,w.heap[b]?=some (.cells vs e (0,0))∧vs.size=cap * sz∧cap≤maxLen∧cs.length≤vs.size∧fz≤cs.length∧pY (vs.toList.take cs.length) ∧
    VL m i cs (vs.toList.take cs.length)∧(∀ o,o<fz→m b o=vs[o]?)∧(∀ o,fz≤o→m b o=none):=by
 have:=h.obj _ (List.mem_of_getElem? hj)
 rcases this with ⟨h1,_⟩ | ⟨b',cap',vs,h1,h2,h3⟩
 ·rw [hi] at h1; cases h1
 ·rw [hi] at h1; cases h1
  exact ⟨vs,h2,h3⟩

theorem wK {α:Type} {l:List α} {n k:Nat} {x:α} (h:(l.take n)[k]?=some x):l[k]?=some x:=by
 rw [List.getElem?_take] at h
 split at h
 ·exact h
 ·cases h

theorem aRE (h:eG P T) {w m i} (hr:nX w m i s) {ty id off j e sz fz:Nat} {cs:List AV} {av:AV} {v0:Value} (v1:VR m i (.ref id off) v0) (hj:s[j]?=some (id,.row e sz cs fz))
  (hl:(match T.lay ty with | some (true,n)=>if Nat.ble (off+n) cs.length then some (AV.agg ((cs.drop off).take n)) else none | some (false,_)=>cs[off]? | none=>none)=some av) :
  ∃ v,(Instr.loadAt ty v0).run P w=.ok v w∧VR m i av v:=by
 obtain ⟨b,cap,hi,v2⟩:=v1
 obtain ⟨vs,g1,g2,g3,g4,g5,g6,g7,g8,g9⟩:=hr.row hj hi
 have cell:∀ (k:Nat) (v:Value),vs[k]?=some v→w.cell? ⟨b,k,none⟩=some v:=fun k v hv=>by rw [cell_of_row w b k vs e (0,0) g1]; exact hv
 split at hl
 ·rename_i n hlay
  split at hl
  ·rename_i hle
   cases hl
   have hle':off+n≤cs.length:=Nat.le_of_ble_eq_true hle
   have q1:VL m i ((cs.drop off).take n) (((vs.toList.take cs.length).drop off).take n):=(g7.drop off).take n
   have q2:(((vs.toList.take cs.length).drop off).take n).length=n:=by
    simp only [List.length_take,List.length_drop,Array.length_toList]; omega
   refine ⟨.agg (((vs.toList.take cs.length).drop off).take n).toArray,?_,_,rfl,fun y hy=>g6 y (List.mem_of_mem_drop (List.mem_of_mem_take hy)),q1⟩
   have:=aAe (w:=w) (b:=b) (o:=off) h hlay _ q2 (fun k v hk=>cell _ _ (by
    have:=wK hk
    rw [List.getElem?_drop] at this
    have:=wK this
    simpa using this))
   rw [v2,this]; rfl
  ·cases hl
 ·rename_i n hlay
  obtain ⟨v,q1,q2⟩:=g7.get _ _ hl
  have hn:=(TT.lay_inv hlay).choose_spec.2.2.2 rfl
  subst hn
  have q3:vs[off]?=some v:=by have:=wK q1; simpa using this
  refine ⟨v,?_,q2⟩
  have:=aAe (w:=w) (b:=b) (o:=off) h hlay [v] rfl (fun k u hk=>by
   cases k with
   | zero=>simp at hk; subst hk; exact cell _ _ q3
   | succ k=>simp at hk)
  rw [v2,this]; rfl
 ·cases hl

theorem aC4 (h:eG P T) {o:Oper} {ty:Nat} {x:Operand} {id off j e sz fz:Nat} {cs:List AV} {av:AV} (ho:o.op=.load ty x) (hx:ev t x=.ref id off) (hj:s[j]?=some (id,.row e sz cs fz))
  (hl:(match T.lay ty with | some (true,n)=>if Nat.ble (off+n) cs.length then some (AV.agg ((cs.drop off).take n)) else none | some (false,_)=>cs[off]? | none=>none)=some av) :
  sP P o t s (fun v z=>v=av∧z=s):=by
 refine fM fun a w m i hr hop=>?_
 rw [ho] at hop
 have v1:=yX (x:=x) hop (by simp [Op.operands])
 rw [hx] at v1
 obtain ⟨v,h1,h2⟩:=aRE h hr v1 hj hl
 exact ⟨v,by simp [execOp,ho,h1],h2⟩

theorem bCt (h:eG P T) {ty a id off j e sz fz:Nat} {cs:List AV} {av:AV} (hx:t a=.ref id off) (hj:s[j]?=some (id,.row e sz cs fz))
  (hl:(match T.lay ty with | some (true,n)=>if Nat.ble (off+n) cs.length then some (AV.agg ((cs.drop off).take n)) else none | some (false,_)=>cs[off]? | none=>none)=some av):aTf P t s (.cell a ty) av:=by
 intro w m i act hr ht
 have v1:=ht a
 rw [hx] at v1
 obtain ⟨v,h1,h2⟩:=aRE h hr v1 hj hl
 refine ⟨v,?_,h2⟩
 obtain ⟨b,cap,hi,v2⟩:=v1
 rw [v2] at h1
 simp only [aUN,v2]
 simpa [Instr.loadAt,Instr.sureAddr,asAddr] using h1

theorem nX.change {w m i} (h:nX w m i s) {j id e sz:Nat} {cs:List AV} {fz:Nat} (hj:s[j]?=some (id,.row e sz cs fz)) {b cap:Nat} (hi:i id=some (some (b,cap))) {vs':Array Value} {cs':List AV}
  (hsz:vs'.size=cap * sz) (hlen:cs'.length≤vs'.size) (hfz:fz≤cs'.length) (hone:pY (vs'.toList.take cs'.length)) (hvl:VL m i cs' (vs'.toList.take cs'.length))
  {vs:Array Value} (hvs:w.heap[b]?=some (.cells vs e (0,0))) (hold:∀ o,o<fz→vs'[o]?=vs[o]?) :
  nX (w.setRow b vs') m i (s.set j (id,.row e sz cs' fz))∧Step w m i s (w.setRow b vs') m i (s.set j (id,.row e sz cs' fz)):=by
 obtain ⟨vs0,g1,g2,g3,g4,g5,g6,g7,g8,g9⟩:=h.row hj hi
 rw [hvs] at g1
 cases g1
 have hjlt:j<s.length:=(List.getElem?_eq_some_iff.1 hj).1
 have hjv:s[j]=(id,.row e sz cs fz):=(List.getElem?_eq_some_iff.1 hj).2
 have hblk:blk i id=some b:=by simp [blk,hi]
 have hids:∀ p∈s.set j (id,.row e sz cs' fz),∃ q∈s,q.1=p.1:=by
  intro p hp
  obtain ⟨k,hk⟩:=List.getElem?_of_mem hp
  rw [List.getElem?_set] at hk
  split at hk
  ·rename_i e1; subst e1
   cases hk
   exact ⟨_,List.mem_of_getElem? hj,rfl⟩
  ·exact ⟨p,List.mem_of_getElem? hk,rfl⟩
 have howns:∀ c,owns i (s.set j (id,.row e sz cs' fz)) c→owns i s c:=by
  rintro c ⟨p,hp,hc⟩
  obtain ⟨q,hq,he⟩:=hids p hp
  exact ⟨q,hq,by rw [he]; exact hc⟩
 refine ⟨⟨fun b1 o v hv=>?_,fun p hp=>?_,?_,h.fin,h.tab⟩,⟨by simp,by simp [World.setRow],by simp [World.setRow],by simp,Mu.le_refl _,Io.le_refl _,fun c hc hno=>?_,fun c _ _ _=>rfl,fun p hp=>.inl (hids p hp),fun c hc=>.inl (howns c hc)⟩⟩
 ·have h0:=h.mu _ _ _ hv
  refine ⟨?_,h0.2⟩
  by_cases e1:b1=b
  ·subst e1
   have hlt:o<fz:=by
    rcases Nat.lt_or_ge o fz with h | h
    ·exact h
    ·rw [g9 o h] at hv; cases hv
   rw [cell_setRow_same w b1 o vs vs' e (0,0) hvs,hold o hlt,← g8 o hlt]
   exact hv
  ·rw [cell_setRow_other w b vs' _ e1]
   exact h0.1
 ·obtain ⟨k,hk⟩:=List.getElem?_of_mem hp
  rw [List.getElem?_set] at hk
  split at hk
  ·rename_i e1; subst e1
   cases hk
   refine .inr ⟨b,cap,vs',hi,setRow_heap w b vs vs' e (0,0) hvs,hsz,g3,hlen,hfz,hone,hvl,fun o ho=>by rw [hold o ho]; exact g8 o ho,g9⟩
  ·rename_i hne
   have hmem:=List.mem_of_getElem? hk
   refine (h.obj p hmem).mono_block (Mu.le_refl _) (Io.le_refl _) (fun c hc=>?_) (fun _ _ _=>rfl)
   refine setRow_other w b c vs' ?_
   intro e1
   subst e1
   have hklt:k<s.length:=(List.getElem?_eq_some_iff.1 hk).1
   have hkv:s[k]=p:=(List.getElem?_eq_some_iff.1 hk).2
   have hap:=List.pairwise_iff_getElem.1 h.apart
   rcases Nat.lt_or_gt_of_ne hne with hlt | hlt
   ·have:=hap j k hjlt hklt hlt
    rw [hjv,hkv] at this
    exact this.2 c hblk hc
   ·have:=hap k j hklt hjlt hlt
    rw [hjv,hkv] at this
    exact this.2 c hc hblk
 ·have hmap:(s.set j (id,Ob.row e sz cs' fz)).map (·.1)=s.map (·.1):=by
   rw [List.map_set]
   have:(s.map (·.1))[j]?=some id:=by simp [hj]
   exact List.ext_getElem? fun k=>by
    rw [List.getElem?_set]
    split
    ·rename_i e1; subst e1; simp [hjlt,hjv]
    ·rfl
  have key:∀ (l:aN),l.Pairwise (Go.Am.apart i)↔(l.map (·.1)).Pairwise (fun p q=>p≠q∧∀ b,blk i p=some b→blk i q≠some b):=by
   intro l; rw [List.pairwise_map]; rfl
  rw [key,hmap,← key]
  exact h.apart
 ·refine setRow_other w b c vs' ?_
  intro e1
  subst e1
  exact hno ⟨_,List.mem_of_getElem? hj,hblk⟩

theorem aY5 {o:Oper} {s':aN}
  (h:∀ (a:Act) (w:World) (m:Mu) (i:Io),nX w m i s→(∀ k,Operand.tmp k∈o.op.operands→VR m i (t k) (a.tmps.getD k undef)) →
   ∃ w' m' i',(execOp a.eval o).run P w=.ok .skip w'∧nX w' m' i' s'∧Step w m i s w' m' i' s') :
  sP P o t s (fun x y=>x=.any∧y=s'):=by
 intro a w m i hr ho K Q hk
 obtain ⟨w',m',i',h1,h3,h4⟩:=h a w m i hr ho
 unfold Oper.wp
 rw [h1]
 exact hk undef w' .any s' m' i' ⟨rfl,rfl⟩ trivial h3 h4

theorem aR5 {w:World} {ty b off:Nat} {e:Nat} {vs:Array Value} {v:Value} (h:eG P T) {g:Bool} {n:Nat} (hl:T.lay ty=some (g,n)) (hvs:w.heap[b]?=some (.cells vs e (0,0)))
  (hn:v.cells.size=n) (hle:off+n≤vs.size) (h1:pY v.cells.toList) :
  (Instr.storeAt ty (.pointer (some ⟨b,off,none⟩)) v).run P w=.ok () (w.setRow b (vs.toList.take off++v.cells.toList++vs.toList.drop (off+n)).toArray):=by
 obtain ⟨r1,r2⟩:=aNO h hl w
 have hs:=run_storeCells_at (P:=P) b off e v.cells.toList 0 vs w hvs (by simp; omega) h1
 simp only [Instr.storeAt,Instr.sureAddr,storeVar,Sem.run_bind,Sem.run_pure,Result.andThen_ok,r2]
 rw [if_neg (by rw [hn]; simp)]
 rw [hs]
 simp [hn]

theorem aEc (h:eG P T) {o:Oper} {ty:Nat} {x y:Operand} {id off j e sz fz:Nat} {cs ds:List AV} (ho:o.op=.store ty x y) (hx:ev t x=.ref id off) (hj:s[j]?=some (id,.row e sz cs fz))
  (hl:(match T.lay ty with | some (true,n)=>(match ev t y with | .agg ds=>if Nat.beq ds.length n then some ds else none | _=>none) | some (false,_)=>(if (ev t y).scalar then some [ev t y] else none) | none=>none)=some ds)
  (hb:(Nat.ble fz off && Nat.ble (off+ds.length) cs.length)=true) :
  sP P o t s (fun v z=>v=.any∧z=s.set j (id,.row e sz (cs.take off++ds++cs.drop (off+ds.length)) fz)):=by
 refine aY5 fun a w m i hr hop=>?_
 rw [ho] at hop
 have v1:=yX (x:=x) hop (by simp [Op.operands])
 have u1:=yX (x:=y) hop (by simp [Op.operands])
 rw [hx] at v1
 obtain ⟨b,cap,hi,v2⟩:=v1
 obtain ⟨vs,g1,g2,g3,g4,g5,g6,g7,g8,g9⟩:=hr.row hj hi
 simp only [Bool.and_eq_true] at hb
 have hb1:fz≤off:=Nat.le_of_ble_eq_true hb.1
 have hb2:off+ds.length≤cs.length:=Nat.le_of_ble_eq_true hb.2
 have key:∃ g,T.lay ty=some (g,ds.length)∧VL m i ds (a.eval y).cells.toList∧pY (a.eval y).cells.toList:=by
  split at hl
  ·rename_i n hlay
   split at hl
   ·rename_i ds' hds
    split at hl
    ·rename_i hbeq
     cases hl
     have:=Nat.eq_of_beq_eq_true hbeq
     subst this
     rw [hds] at u1
     exact ⟨true,hlay,u1.cells (.inr ⟨_,rfl⟩)⟩
    ·cases hl
   ·cases hl
  ·rename_i n hlay
   split at hl
   ·rename_i hsc
    cases hl
    have hn:=(TT.lay_inv hlay).choose_spec.2.2.2 rfl
    subst hn
    obtain ⟨q1,q2,q3⟩:=u1.scalar hsc
    have:=u1.cells (.inl hsc)
    rw [q3] at this
    exact ⟨false,hlay,this⟩
   ·cases hl
  ·cases hl
 obtain ⟨g,hlay,k1,k2⟩:=key
 have hlen:=k1.eq_len
 have hrun:=aR5 (P:=P) (v:=a.eval y) (off:=off) h hlay g1 (by simpa using hlen.symm) (by omega) k2
 have htl:(vs.toList.take off++(a.eval y).cells.toList++vs.toList.drop (off+ds.length)).length=vs.size:=by
  simp only [List.length_append,List.length_take,List.length_drop,Array.length_toList,Array.length_toList] at *
  omega
 have hcl:(cs.take off++ds++cs.drop (off+ds.length)).length=cs.length:=by
  simp only [List.length_append,List.length_take,List.length_drop]; omega
 have htake:(vs.toList.take off++(a.eval y).cells.toList++vs.toList.drop (off+ds.length)).take cs.length =
   (vs.toList.take cs.length).take off++(a.eval y).cells.toList++(vs.toList.take cs.length).drop (off+ds.length):=by
  rw [List.take_append,List.take_append]
  have l1:(vs.toList.take off).length=off:=by simp; omega
  have l2:(a.eval y).cells.toList.length=ds.length:=hlen.symm
  rw [List.length_append,l1,l2,List.take_of_length_le (by omega),List.take_of_length_le (l:=(a.eval y).cells.toList) (by omega)]
  congr 1
  ·congr 1
   rw [List.take_take,Nat.min_eq_left (by omega)]
  ·rw [List.drop_take]
 obtain ⟨r1,r2⟩:=hr.change hj hi (vs':=(vs.toList.take off++(a.eval y).cells.toList++vs.toList.drop (off+ds.length)).toArray) (cs':=cs.take off++ds++cs.drop (off+ds.length))
  (by rw [← g2]; simpa using htl) (by rw [hcl]; simp only [List.size_toArray,htl]; exact g4) (by rw [hcl]; exact g5)
  (by
   rw [hcl]
   simp only [htake]
   intro z hz
   rcases List.mem_append.1 hz with hz | hz
   ·rcases List.mem_append.1 hz with hz | hz
    ·exact g6 z (List.mem_of_mem_take hz)
    ·exact k2 z hz
   ·exact g6 z (List.mem_of_mem_drop hz))
  (by
   rw [hcl]
   simp only [htake]
   exact ((g7.take _).append k1).append (g7.drop _))
  g1
  (by
   intro o ho
   have hlt:o<off:=by omega
   simp only [List.getElem?_toArray,List.append_assoc]
   rw [List.getElem?_append_left (by simp; omega),List.getElem?_take,if_pos hlt]
   simp)
 exact ⟨_,m,i,by simp only [execOp,ho,v2,Sem.run_bind,hrun]; rfl,r1,r2⟩
end
end Go.Am

/- The abstract machine, part 9: new objects; sealing; rows that grow; calls; texts joined. -/
namespace Go.Am
open Go
section
variable {P:Program} {T:TT} {n:Nat} {t:mA} {s:aN}

def Io.with (i:Io) (k:Nat) (x:Option (Nat×Nat)):Io:=fun j=>if j=k then some x else i j
theorem Io.le_with {i:Io} {k:Nat} {x} (h:i k=none):i.le (i.with k x):=by
 intro j y hj
 unfold Io.with
 by_cases e:j=k
 ·subst e; rw [h] at hj; cases hj
 ·rw [if_neg e]; exact hj
theorem Io.with_self {i:Io} {k:Nat} {x}:i.with k x k=some x:=by simp [Io.with]
theorem Io.fin_with {i:Io} {k:Nat} {x} (h:∃ N,∀ j,N≤j→i j=none):∃ N,∀ j,N≤j→i.with k x j=none:=by
 obtain ⟨N,hN⟩:=h
 refine ⟨max N (k+1),fun j hj=>?_⟩
 unfold Io.with
 rw [if_neg (by omega)]
 exact hN j (by omega)

theorem nX.new {w m i} (h:nX w m i s) (e sz cap:Nat) (vs:Array Value) (cs:List AV) (d fz:Nat) (hsz:vs.size=cap * sz) (hcap:cap≤maxLen) (hlen:cs.length≤vs.size) (hfz:fz≤cs.length)
  (h1:pY (vs.toList.take cs.length)) (hvl:VL m i cs (vs.toList.take cs.length)) :
  ∃ k m' i',i k=none∧i' k=some (some (w.heap.size,cap))∧nX ({ (w.alloc (.cells vs e (0,0))) with drawn:=d }) m' i' ((k,.row e sz cs fz) :: s) ∧
   Step w m i s ({ (w.alloc (.cells vs e (0,0))) with drawn:=d }) m' i' ((k,.row e sz cs fz) :: s):=by
 obtain ⟨N,hN⟩:=h.fin
 have hk:i N=none:=hN N (Nat.le_refl _)
 have hio:=Io.le_with (x:=some (w.heap.size,cap)) hk
 have hself:i.with N (some (w.heap.size,cap)) N=some (some (w.heap.size,cap)):=Io.with_self
 have hmu:=Mu.le_more h (vs.toList.take fz)
 have hmo:∀ b,b<w.heap.size→∀ o,m.more w.heap.size (vs.toList.take fz) b o=m b o:=fun b hb o=>by unfold Mu.more; rw [if_neg (by omega)]
 have hold:∀ p∈s,p.1≠N:=fun p hp e=>by
  obtain ⟨x,hx⟩:=(h.obj p hp).id
  rw [e,hk] at hx; cases hx
 have hblk:blk (i.with N (some (w.heap.size,cap))) N=some w.heap.size:=by simp [blk,hself]
 have hbold:∀ p∈s,blk (i.with N (some (w.heap.size,cap))) p.1=blk i p.1:=fun p hp=>by
  obtain ⟨x,hx⟩:=(h.obj p hp).id
  exact aKn hio hx
 refine ⟨N,m.more w.heap.size (vs.toList.take fz),i.with N (some (w.heap.size,cap)),hk,hself,⟨fun b o v hv=>?_,fun p hp=>?_,?_,Io.fin_with h.fin,fun b o v hh=>hmu _ _ _ (h.tab b o v hh)⟩,⟨rfl,rfl,rfl,by simp,hmu,hio,fun b hb _=>heap_alloc_old w _ hb,fun b hb _ o=>hmo b hb o,fun p hp=>?_,fun b hb=>?_⟩⟩
 ·show (w.alloc (.cells vs e (0,0))).cell? ⟨b,o,none⟩=some v∧v.oneCell'=true
  unfold Mu.more at hv
  by_cases e':b=w.heap.size
  ·subst e'
   rw [if_pos rfl] at hv
   rw [World.cell?_alloc_new]
   have hv2:=wK hv
   refine ⟨by simpa using hv2,?_⟩
   refine h1 v ?_
   have:(vs.toList.take cs.length)[o]?=some v:=by
    rw [List.getElem?_take] at hv ⊢
    split at hv
    ·rw [if_pos (by omega)]; exact hv
    ·cases hv
   exact List.mem_of_getElem? this
  ·rw [if_neg e'] at hv
   have:=h.mu _ _ _ hv
   rw [World.cell?_alloc_lt _ _ _ (World.block_lt_of_cell? w _ this.1)]
   exact this
 ·rcases List.mem_cons.1 hp with rfl | hp
  ·refine .inr ⟨w.heap.size,cap,vs,hself,heap_alloc_new w _,hsz,hcap,hlen,hfz,h1,VL.mono hmu hio _ _ hvl,fun o ho=>?_,fun o ho=>?_⟩
   ·unfold Mu.more
    rw [if_pos rfl,List.getElem?_take,if_pos ho]
    simp
   ·unfold Mu.more
    rw [if_pos rfl,List.getElem?_take,if_neg (by omega)]
  ·exact (h.obj p hp).mono_block hmu hio (fun b hb=>heap_alloc_old w _ ((h.obj p hp).lt hb)) (fun b hb o=>hmo b ((h.obj p hp).lt hb) o)
 ·refine List.pairwise_cons.2 ⟨fun q hq=>⟨fun e=>hold q hq e.symm,fun b hb hbq=>?_⟩,?_⟩
  ·rw [hblk] at hb; cases hb
   rw [hbold q hq] at hbq
   have:=(h.obj q hq).lt hbq
   omega
  ·refine h.apart.imp_of_mem ?_
   intro p q hp hq hpq
   exact ⟨hpq.1,fun b hb=>by rw [hbold p hp] at hb; rw [hbold q hq]; exact hpq.2 b hb⟩
 ·rcases List.mem_cons.1 hp with rfl | hp
  ·exact .inr hk
  ·exact .inl ⟨p,hp,rfl⟩
 ·obtain ⟨p,hp,e'⟩:=hb
  rcases List.mem_cons.1 hp with rfl | hp
  ·rw [hblk] at e'; cases e'; exact .inr (Nat.le_refl _)
  ·rw [hbold p hp] at e'; exact .inl ⟨p,hp,e'⟩

theorem bAP {o:Oper} {e:Nat} {x:Operand} {cs:List AV} (ho:o.op=.box e x)
  (hc:(match ev t x with | .agg cs=>some cs | v=>if v.scalar then some [v] else none)=some cs) :
  sP P o t s (fun v z=>∃ k,v=.ref k 0∧z=(k,.row e cs.length cs 0) :: s):=by
 intro a w m i hr hop K Q hK
 rw [ho] at hop
 have v1:=yX (x:=x) hop (by simp [Op.operands])
 have key:VL m i cs (a.eval x).cells.toList∧pY (a.eval x).cells.toList:=by
  split at hc
  ·rename_i ds hd
   cases hc
   rw [hd] at v1
   exact v1.cells (.inr ⟨_,rfl⟩)
  ·split at hc
   ·rename_i hsc
    cases hc
    have:=v1.cells (.inl hsc)
    rw [(v1.scalar hsc).2.2] at this
    exact this
   ·cases hc
 have hlen:=key.1.eq_len
 have htake:(a.eval x).cells.toList.take cs.length=(a.eval x).cells.toList:=List.take_of_length_le (by omega)
 obtain ⟨k,m',i',h1,h2,h3,h4⟩:=hr.new e cs.length 1 (a.eval x).cells cs w.drawn 0 (by rw [hlen]; simp) (by unfold maxLen; omega) (by rw [hlen]; simp) (Nat.zero_le _) (by rw [htake]; exact key.2) (by rw [htake]; exact key.1)
 unfold Oper.wp
 have hrun:(execOp a.eval o).run P w=.ok (.value (.pointer (some ⟨w.heap.size,0,none⟩))) (w.alloc (.cells (a.eval x).cells e (0,0))):=by
  simp [execOp,ho,Instr.box,newVar,newRow]
 rw [hrun]
 exact hK _ _ (.ref k 0) _ m' i' ⟨k,rfl,rfl⟩ ⟨_,_,h2,rfl⟩ h3 h4

theorem aWc (h:eG P T) {o:Oper} {e:Nat} {zs:List Value} (ho:o.op=.alloc e) (hz:lk T.zero e=some zs) (h1:zs.all Value.oneCell'=true) :
  sP P o t s (fun v z=>∃ k,v=.ref k 0∧z=(k,.row e zs.length (zs.map .lit) 0) :: s):=by
 intro a w m i hr hop K Q hK
 obtain ⟨z,r1,r2⟩:=aUm h hz w
 have hzl:z.cells.size=zs.length:=by rw [← r2]; simp
 have htake:z.cells.toList.take (zs.map AV.lit).length=zs:=by rw [r2,List.length_map,List.take_length]
 obtain ⟨k,m',i',g1,g2,g3,g4⟩:=hr.new e zs.length 1 z.cells (zs.map .lit) w.drawn 0 (by rw [hzl]; simp) (by unfold maxLen; omega) (by rw [hzl]; simp) (Nat.zero_le _)
  (by rw [htake]; exact fun v hv=>List.all_eq_true.1 h1 v hv) (by rw [htake]; exact VL.consts zs)
 unfold Oper.wp
 have hrun:(execOp a.eval o).run P w=.ok (.value (.pointer (some ⟨w.heap.size,0,none⟩))) (w.alloc (.cells z.cells e (0,0))):=by
  simp [execOp,ho,Instr.alloc,newVar,newRow,r1]
 rw [hrun]
 exact hK _ _ (.ref k 0) _ m' i' ⟨k,rfl,rfl⟩ ⟨_,_,g2,rfl⟩ g3 g4

/-! ### sealing -/
theorem nX.frz {w m i} (h:nX w m i s) {j id e sz:Nat} {cs:List AV} {fz:Nat} (hj:s[j]?=some (id,.row e sz cs fz)) :
  ∃ m',nX w m' i (s.set j (id,.row e sz cs cs.length))∧Step w m i s w m' i (s.set j (id,.row e sz cs cs.length)):=by
 have hjlt:j<s.length:=(List.getElem?_eq_some_iff.1 hj).1
 have hjv:s[j]=(id,.row e sz cs fz):=(List.getElem?_eq_some_iff.1 hj).2
 have hids:∀ p∈s.set j (id,.row e sz cs cs.length),∃ q∈s,q.1=p.1:=by
  intro p hp
  obtain ⟨k,hk⟩:=List.getElem?_of_mem hp
  rw [List.getElem?_set] at hk
  split at hk
  ·cases hk; exact ⟨_,List.mem_of_getElem? hj,rfl⟩
  ·exact ⟨p,List.mem_of_getElem? hk,rfl⟩
 have hap:(s.set j (id,Ob.row e sz cs cs.length)).Pairwise (Go.Am.apart i):=by
  have hmap:(s.set j (id,Ob.row e sz cs cs.length)).map (·.1)=s.map (·.1):=by
   rw [List.map_set]
   exact List.ext_getElem? fun k=>by
    rw [List.getElem?_set]
    split
    ·rename_i e1; subst e1; simp [hjlt,hjv]
    ·rfl
  have key:∀ (l:aN),l.Pairwise (Go.Am.apart i)↔(l.map (·.1)).Pairwise (fun p q=>p≠q∧∀ b,blk i p=some b→blk i q≠some b):=by
   intro l; rw [List.pairwise_map]; rfl
  rw [key,hmap,← key]
  exact h.apart
 have step:∀ m',m.le m'→(∀ b,¬ owns i s b→∀ o,m' b o=m b o)→Step w m i s w m' i (s.set j (id,.row e sz cs cs.length)):=fun m' hm hno =>
  ⟨rfl,rfl,rfl,Nat.le_refl _,hm,Io.le_refl _,fun _ _ _=>rfl,fun b _ hb o=>hno b hb o,fun p hp=>.inl (hids p hp),fun b ⟨p,hp,e'⟩=>.inl (let ⟨q,hq,e2⟩:=hids p hp; ⟨q,hq,e2 ▸ e'⟩)⟩
 rcases h.obj _ (List.mem_of_getElem? hj) with ⟨g1,g2,g3⟩ | ⟨b,cap,vs,g1,g2,g3,g4,g5,g6,g7,g8,g9,g10⟩
 ·subst g2
  subst g3
  refine ⟨m,?_,step m (Mu.le_refl _) (fun _ _ _=>rfl)⟩
  have:s.set j (id,Ob.row e sz [] ([]:List AV).length)=s:=by
   apply List.ext_getElem?
   intro k
   rw [List.getElem?_set]
   split
   ·rename_i e1; subst e1; rw [hj]; simp
   ·rfl
  rw [this]; exact h
 ·have hblk:blk i id=some b:=by simp [blk,g1]
  let m':Mu:=fun b' o=>if b'=b∧o<cs.length then vs[o]? else m b' o
  have hle:m.le m':=by
   intro b' o v hv
   show (if b'=b∧o<cs.length then vs[o]? else m b' o)=some v
   split
   ·rename_i hc
    obtain ⟨rfl,ho⟩:=hc
    rcases Nat.lt_or_ge o fz with h' | h'
    ·rw [← g9 o h']; exact hv
    ·rw [g10 o h'] at hv; cases hv
   ·exact hv
  have hno:∀ b',b'≠b→∀ o,m' b' o=m b' o:=fun b' hb o=>by show (if b'=b∧o<cs.length then vs[o]? else m b' o)=_; rw [if_neg (fun hc=>hb hc.1)]
  refine ⟨m',⟨fun b' o v hv=>?_,fun p hp=>?_,hap,h.fin,fun b o v hh=>hle _ _ _ (h.tab b o v hh)⟩,step m' hle fun b' hb o=>hno b' (fun e'=>hb (by subst e'; exact ⟨_,List.mem_of_getElem? hj,hblk⟩)) o⟩
  ·have hv':(if b'=b∧o<cs.length then vs[o]? else m b' o)=some v:=hv
   split at hv'
   ·rename_i hc
    obtain ⟨rfl,ho⟩:=hc
    refine ⟨by rw [cell_of_row w b' o vs e (0,0) g2]; exact hv',g7 v ?_⟩
    have:(vs.toList.take cs.length)[o]?=some v:=by rw [List.getElem?_take,if_pos ho]; simpa using hv'
    exact List.mem_of_getElem? this
   ·exact h.mu _ _ _ hv'
  ·obtain ⟨k,hk⟩:=List.getElem?_of_mem hp
   rw [List.getElem?_set] at hk
   split at hk
   ·cases hk
    refine .inr ⟨b,cap,vs,g1,g2,g3,g4,g5,Nat.le_refl _,g7,VL.mono hle (Io.le_refl _) _ _ g8,fun o ho=>?_,fun o ho=>?_⟩
    ·show (if b=b∧o<cs.length then vs[o]? else m b o)=_
     rw [if_pos ⟨rfl,ho⟩]
    ·show (if b=b∧o<cs.length then vs[o]? else m b o)=_
     rw [if_neg (fun hc=>absurd hc.2 (by omega))]
     exact g10 o (by omega)
   ·rename_i hne
    have hmem:=List.mem_of_getElem? hk
    refine (h.obj p hmem).mono_block hle (Io.le_refl _) (fun _ _=>rfl) (fun c hc o=>hno c ?_ o)
    intro e1
    subst e1
    have hklt:k<s.length:=(List.getElem?_eq_some_iff.1 hk).1
    have hkv:s[k]=p:=(List.getElem?_eq_some_iff.1 hk).2
    have hapw:=List.pairwise_iff_getElem.1 h.apart
    rcases Nat.lt_or_gt_of_ne hne with hlt | hlt
    ·have:=hapw j k hjlt hklt hlt
     rw [hjv,hkv] at this
     exact this.2 c hblk hc
    ·have:=hapw k j hklt hjlt hlt
     rw [hjv,hkv] at this
     exact this.2 c hc hblk

theorem iQ.frz {j id e sz:Nat} {cs:List AV} {fz:Nat} (hj:s[j]?=some (id,.row e sz cs fz)):iQ t s t (s.set j (id,.row e sz cs cs.length)):=by
 intro w m i a h1 h2
 obtain ⟨m',h3,h4⟩:=h1.frz hj
 exact ⟨m',i,h3,h2.mono h4.mu h4.io,h4⟩

theorem nX.sealed {w m i} (h:nX w m i s) {j id e sz:Nat} {cs:List AV} (hj:s[j]?=some (id,.row e sz cs cs.length)) {b cap:Nat} (hi:i id=some (some (b,cap))):VC m i cs b 0∧cap≤maxLen∧cs.length≤cap * sz:=by
 obtain ⟨vs,g1,g2,g3,g4,g5,g6,g7,g8,g9⟩:=h.row hj hi
 refine ⟨VC.of_list g7 fun k v hk=>?_,g3,by omega⟩
 have hlt:k<cs.length:=by
  have:=(List.getElem?_eq_some_iff.1 hk).1
  rw [List.length_take] at this; omega
 rw [Nat.zero_add,g8 k hlt]
 have:=wK hk
 simpa using this

theorem eM.ref {j id e sz off:Nat} {cs:List AV} (hj:s[j]?=some (id,.row e sz cs cs.length)):eM s (.ref id off) (.ptr (cs.drop off)):=by
 intro w m i v hr ⟨b,c,h1,h2⟩
 have:=((hr.sealed hj h1).1).drop off
 exact ⟨b,off,h2,by simpa using this⟩

theorem eM.row {j id e sz n:Nat} {cs:List AV} (hj:s[j]?=some (id,.row e sz cs cs.length)) (hn:n=0→cs=[]):eM s (.row id n) (.slc cs n false):=by
 intro w m i v hr hv
 rcases hv with ⟨h1,h2,h3⟩ | ⟨b,cap,h1,h2,h3⟩
 ·exact .inl ⟨h2,hn h2,none,h3⟩
 ·obtain ⟨q1,q2,q3⟩:=hr.sealed hj h1
  exact .inr ⟨b,0,cap,h3,h2,q2,fun h=>(by cases h),q1⟩

theorem iQ.view (k:Nat) {x y:AV} (hx:t k=x) (h:eM s x y):iQ t s (t.put (some k) y) s:=by
 intro w m i a h1 h2
 refine ⟨m,i,h1,fun j=>?_,Step.refl _ _ _ _⟩
 simp only [mA.put]
 by_cases e:j=k
 ·subst e; rw [eB,if_pos rfl]; exact h _ _ _ _ h1 (hx ▸ h2 j)
 ·rw [fN e,if_neg (by simp)]; exact h2 j

theorem VL.set_av {m:Mu} {i:Io} {c:AV}:∀ {cs:List AV} {vs:List Value} (k:Nat),VL m i cs vs→(∀ v,vs[k]?=some v→VR m i c v)→VL m i (cs.set k c) vs
 | [],_,_,h,_=>h
 | c0 :: cs,_,0,⟨v0,vs,h1,h2,h3⟩,hc=>by subst h1; exact ⟨v0,vs,rfl,hc v0 rfl,h3⟩
 | c0 :: cs,_,k+1,⟨v0,vs,h1,h2,h3⟩,hc=>by subst h1; exact ⟨v0,vs,rfl,h2,VL.set_av k h3 fun v hv=>hc v (by simpa using hv)⟩

theorem iQ.cell {j id e sz:Nat} {cs:List AV} {fz:Nat} (k:Nat) {x y:AV} (hj:s[j]?=some (id,.row e sz cs fz)) (hx:cs[k]?=some x) (h:eM s x y) :
  iQ t s t (s.set j (id,.row e sz (cs.set k y) fz)):=by
 intro w m i a h1 h2
 have hjlt:j<s.length:=(List.getElem?_eq_some_iff.1 hj).1
 have hjv:s[j]=(id,.row e sz cs fz):=(List.getElem?_eq_some_iff.1 hj).2
 have hids:∀ p∈s.set j (id,Ob.row e sz (cs.set k y) fz),∃ q∈s,q.1=p.1:=by
  intro p hp
  obtain ⟨l,hl⟩:=List.getElem?_of_mem hp
  rw [List.getElem?_set] at hl
  split at hl
  ·cases hl; exact ⟨_,List.mem_of_getElem? hj,rfl⟩
  ·exact ⟨p,List.mem_of_getElem? hl,rfl⟩
 refine ⟨m,i,⟨h1.mu,fun p hp=>?_,?_,h1.fin,h1.tab⟩,h2,⟨rfl,rfl,rfl,Nat.le_refl _,Mu.le_refl _,Io.le_refl _,fun _ _ _=>rfl,fun _ _ _ _=>rfl,fun p hp=>.inl (hids p hp),fun b ⟨p,hp,e'⟩=>.inl (let ⟨q,hq,e2⟩:=hids p hp; ⟨q,hq,e2 ▸ e'⟩)⟩⟩
 ·obtain ⟨l,hl⟩:=List.getElem?_of_mem hp
  rw [List.getElem?_set] at hl
  split at hl
  ·cases hl
   rcases h1.obj _ (List.mem_of_getElem? hj) with ⟨g1,g2,g3⟩ | ⟨b,cap,vs,g1,g2,g3,g4,g5,g6,g7,g8,g9,g10⟩
   ·subst g2; simp at hx
   ·refine .inr ⟨b,cap,vs,g1,g2,g3,g4,by simpa using g5,by simpa using g6,by simpa using g7,?_,g9,g10⟩
    simp only [List.length_set]
    refine VL.set_av k g8 fun v hv=>?_
    obtain ⟨u,q1,q2⟩:=g8.get k x hx
    rw [hv] at q1
    cases q1
    exact h _ _ _ _ h1 q2
  ·exact h1.obj p (List.mem_of_getElem? hl)
 ·have hmap:(s.set j (id,Ob.row e sz (cs.set k y) fz)).map (·.1)=s.map (·.1):=by
   rw [List.map_set]
   exact List.ext_getElem? fun l=>by
    rw [List.getElem?_set]
    split
    ·rename_i e1; subst e1; simp [hjlt,hjv]
    ·rfl
  have key:∀ (l:aN),l.Pairwise (Go.Am.apart i)↔(l.map (·.1)).Pairwise (fun p q=>p≠q∧∀ b,blk i p=some b→blk i q≠some b):=by
   intro l; rw [List.pairwise_map]; rfl
  rw [key,hmap,← key]
  exact h1.apart

theorem nX.adopt {w m i} (h:nX w m i s) (e sz:Nat):∃ k i',i k=none∧i' k=some none∧nX w m i' ((k,.row e sz [] 0) :: s)∧Step w m i s w m i' ((k,.row e sz [] 0) :: s):=by
 obtain ⟨N,hN⟩:=h.fin
 have hk:i N=none:=hN N (Nat.le_refl _)
 have hio:=Io.le_with (x:=none) hk
 have hself:i.with N none N=some none:=Io.with_self
 have hbN:blk (i.with N none) N=none:=by simp [blk,hself]
 have hold:∀ p∈s,p.1≠N:=fun p hp e=>by
  obtain ⟨x,hx⟩:=(h.obj p hp).id
  rw [e,hk] at hx; cases hx
 have hbold:∀ p∈s,blk (i.with N none) p.1=blk i p.1:=fun p hp=>by
  obtain ⟨x,hx⟩:=(h.obj p hp).id
  exact aKn hio hx
 refine ⟨N,i.with N none,hk,hself,⟨h.mu,fun p hp=>?_,?_,Io.fin_with h.fin,h.tab⟩,⟨rfl,rfl,rfl,Nat.le_refl _,Mu.le_refl _,hio,fun _ _ _=>rfl,fun _ _ _ _=>rfl,fun p hp=>?_,fun b hb=>?_⟩⟩
 ·rcases List.mem_cons.1 hp with rfl | hp
  ·exact .inl ⟨hself,rfl,rfl⟩
  ·exact (h.obj p hp).mono_block (Mu.le_refl _) hio (fun _ _=>rfl) (fun _ _ _=>rfl)
 ·refine List.pairwise_cons.2 ⟨fun q hq=>⟨fun e=>hold q hq e.symm,fun b hb=>by rw [hbN] at hb; cases hb⟩,?_⟩
  refine h.apart.imp_of_mem ?_
  intro p q hp hq hpq
  exact ⟨hpq.1,fun b hb=>by rw [hbold p hp] at hb; rw [hbold q hq]; exact hpq.2 b hb⟩
 ·rcases List.mem_cons.1 hp with rfl | hp
  ·exact .inr hk
  ·exact .inl ⟨p,hp,rfl⟩
 ·obtain ⟨p,hp,e'⟩:=hb
  rcases List.mem_cons.1 hp with rfl | hp
  ·rw [hbN] at e'; cases e'
  ·rw [hbold p hp] at e'; exact .inl ⟨p,hp,e'⟩

theorem bDE {c:Code} {Q:lZ} (k e sz:Nat) (hx:t k=.lit (.slice none 0 0)) (h:∀ id,AWp P n c Q (t.put (some k) (.row id 0)) ((id,.row e sz [] 0) :: s)):AWp P n c Q t s:=by
 intro a w m i h1 h2 h3 h4
 obtain ⟨id,i',g1,g2,g3,g4⟩:=h1.adopt e sz
 refine wp_mono (h id a w m i' g3 (fun j=>?_) h3 h4) fun e a' w' hc=>Conc.after g4 hc
 simp only [mA.put]
 by_cases e:j=k
 ·subst e
  rw [eB,if_pos rfl]
  have:=h2 j
  rw [hx] at this
  exact .inl ⟨g2,rfl,this⟩
 ·rw [fN e,if_neg (by simp)]; exact VR.mono (Mu.le_refl _) g4.io _ _ (h2 j)

/-! ### calls -/
def aTv (t:mA) (args:List Operand):List AV:=args.map (ev t)

theorem aPE {fid:Nat} {fn:Func} (hfn:P.funcs[fid]?=some fn) (hb:fn.body.isNone=false) (hnm:(fn.name == "runtime.NumGoroutine")=false) (args:Array Value) (w:World) :
  (callFunc fid args).run P w=.ok (.enter fid args) w:=by
 unfold callFunc
 rw [Sem.run_bind,run_program]
 simp only [Result.andThen_ok,hfn,hnm,hb,Bool.false_eq_true,if_false]
 rfl

def VW (s:aN):List AV→List AV→Prop
 | [],l=>l=[]
 | x :: xs,l=>∃ y ys,l=y :: ys∧eM s x y∧VW s xs ys
theorem VW.nil:VW s [] []:=rfl
theorem VW.cons {x y:AV} {xs ys:List AV} (h:eM s x y) (k:VW s xs ys):VW s (x :: xs) (y :: ys):=⟨y,ys,rfl,h,k⟩
theorem VW.same {x:AV} {xs ys:List AV} (k:VW s xs ys):VW s (x :: xs) (x :: ys):=⟨x,ys,rfl,eM.of_weak (jS.refl x),k⟩
theorem VW.refl:∀ l,VW s l l
 | []=>rfl
 | x :: xs=>⟨x,xs,rfl,eM.of_weak (jS.refl x),VW.refl xs⟩
theorem VW.vl {w m i} (hr:nX w m i s):∀ {xs ys:List AV} {vs:List Value},VW s xs ys→VL m i xs vs→VL m i ys vs
 | [],_,_,h,k=>by rw [h]; exact k
 | x :: xs,_,vs,⟨y,ys,h1,h2,h3⟩,⟨v,vs',k1,k2,k3⟩=>by subst h1; exact ⟨v,vs',k1,h2 _ _ _ _ hr k2,VW.vl hr h3 k3⟩

theorem eM.tup {xs ys:List AV} (h:VW s xs ys):eM s (.tup xs) (.tup ys):=fun _ _ _ _ hr ⟨vs,h1,h2⟩=>⟨vs,h1,h.vl hr h2⟩

theorem aFH {o:Oper} {f:Operand} {args:Array Operand} {tys:Array TypeId} {fid:Nat} {caps first:List AV} {xs args':List AV} {sm r:aN} {Q:AV→aN→Prop} {fn:Func}
  (ho:o.op=.call ⟨.value f,args,tys⟩) (hf:ev t f=.fn (.func fid) first caps) (hfn:P.funcs[fid]?=some fn) (hb:fn.body.isNone=false) (hnm:(fn.name == "runtime.NumGoroutine")=false)
  (hc:lO P fid args' sm Q) (hxs:first++aTv t args.toList++caps=xs) (hw:VW s xs args') (hp:s.Perm (sm++r)) :
  sP P o t s (fun v z=>∃ z1,Q v z1∧z=z1++r):=by
 intro a w m i hr hop K Q' hK
 rw [ho] at hop
 have v1:=yX (x:=f) hop (by simp [Op.operands,Call.operands])
 rw [hf] at v1
 obtain ⟨fs,cs,e1,e2,e3⟩:=v1
 have hargs:VL m i (aTv t args.toList) (args.toList.map a.eval):=VL.map_ev _ fun k hk=>hop k (by simp [Op.operands,Call.operands]; exact .inr (by simpa using hk))
 have hall:VL m i args' (fs++args.toList.map a.eval++cs):=hw.vl hr (hxs ▸ (e2.append hargs).append e3)
 unfold Oper.wp
 have hrun:(execOp a.eval o).run P w=.ok (.enter fid (fs++args.toList.map a.eval++cs).toArray) w:=by
  have harr:fs.toArray++Array.map a.eval args++cs.toArray=(fs++args.toList.map a.eval++cs).toArray:=by
   apply Array.toList_inj.1; simp
  rw [← harr]
  simp only [execOp,ho,resolve,e1,Deferred.ofValue,invoke,Sem.run_bind,Sem.run_pure,Result.andThen_ok,aPE hfn hb hnm]
 rw [hrun]
 refine (hc.frame hp w m i _ hr hall).mono ?_
 rintro e w' ⟨v,av,s',m',i',rfl,q,hv,hr',hst⟩
 exact hK v w' av s' m' i' q hv hr' hst

/-! ### texts joined -/
theorem aZM {o:Oper} {ty yt:Nat} {x y:Operand} {l r:List UInt8} (ho:o.op=.binOp .add ty x y yt) (hx:ev t x=.s l) (hy:ev t y=.s r) (hb:l.length+r.length≤9223372036854775807) :
  sP P o t s (fun v z=>v=.s (l++r)∧z=s):=by
 refine fM fun a w m i hr hop=>?_
 rw [ho] at hop
 have v1:=yX (x:=x) hop (by simp [Op.operands])
 have v2:=yX (x:=y) hop (by simp [Op.operands])
 rw [hx] at v1; rw [hy] at v2
 have v1':a.eval x=.string ⟨l.toArray⟩:=v1
 have v2':a.eval y=.string ⟨r.toArray⟩:=v2
 refine ⟨.string (⟨l.toArray⟩++⟨r.toArray⟩),?_,?_⟩
 ·have:=run_string_add_sum (P:=P) (w:=w) ⟨l.toArray⟩ ⟨r.toArray⟩ (by simpa [ByteArray.size] using hb)
  simp only [execOp,ho,v1',v2',Sem.run_bind,aGw (show ∀ cs,Value.string ⟨l.toArray⟩≠.agg cs from by simp) (by simp),Result.andThen_ok,binOp_string_add,this]
  rfl
 ·show Value.string _=Value.string _
  congr 1
end
end Go.Am

