/- Joined texts: Sx1, Sx2, Sx3, Sx4, Sx5, Sx6. -/
import Derived.Test.YtjhfgiieicloeaaGreatDoorGb
import Derived.Laws.Cover4
import Derived.Laws.BytesString
/- The executor, part 1: typed values, values seen deep, what they stand for. -/
namespace Go.Sx
open Go Go.Am

inductive Ty where
 | int (k:IntKind) | bool | str | tree
 | list (full:Bool) (e:Ty)
 | pair (a b:Ty)
 | one (a:Ty)
 deriving DecidableEq

@[reducible] def Ty.D:Ty→Type
 | .int _=>Int
 | .bool=>Bool
 | .str=>List UInt8
 | .tree=>Tr
 | .list _ e=>List e.D
 | .pair a b=>a.D×b.D
 | .one a=>a.D

def Ty.n:Ty→Nat
 | .pair a b=>a.n+b.n
 | .one a=>a.n
 | _=>1

def iteS {α:Type} (b:Bool) (x y:α):α:=match b with
 | true=>x
 | false=>y
theorem aWH {α:Type} (b:Bool) (x y:α):iteS b x y=if b=true then x else y:=by cases b <;> rfl
@[simp] theorem iteS_true {α:Type} (x y:α):iteS true x y=x:=rfl
@[simp] theorem iteS_false {α:Type} (x y:α):iteS false x y=y:=rfl

def Ty.dflt:(τ:Ty)→τ.D
 | .int _=>(0:Int)
 | .bool=>false
 | .str=>[]
 | .tree=>.nil
 | .list _ _=>[]
 | .pair a b=>(a.dflt,b.dflt)
 | .one a=>a.dflt

def Ty.cells:(τ:Ty)→τ.D→List AV
 | .int k,x=>[.lit (.int k x)]
 | .bool,x=>[.b x]
 | .str,x=>[.s x]
 | .tree,x=>[.tree x]
 | .list f e,x=>[.slc (x.flatMap e.cells) x.length f]
 | .pair a b,x=>a.cells x.1++b.cells x.2
 | .one a,x=>a.cells x

def Ty.av:(τ:Ty)→τ.D→AV
 | .int k,x=>.lit (.int k x)
 | .bool,x=>.b x
 | .str,x=>.s x
 | .tree,x=>.tree x
 | .list f e,x=>.slc (x.flatMap e.cells) x.length f
 | .pair a b,x=>.agg (a.cells x.1++b.cells x.2)
 | .one a,x=>.agg (a.cells x)

theorem Ty.cells_len:∀ (τ:Ty) (x:τ.D),(τ.cells x).length=τ.n
 | .int _,_=>rfl
 | .bool,_=>rfl
 | .str,_=>rfl
 | .tree,_=>rfl
 | .list _ _,_=>rfl
 | .pair a b,x=>by simp [Ty.cells,Ty.n,Ty.cells_len a,Ty.cells_len b]
 | .one a,x=>Ty.cells_len a x

abbrev Dyn:=Sigma Ty.D
def Dyn.av (d:Dyn):AV:=d.1.av d.2
def vH:Dyn→Nat
 | ⟨.list _ _,l⟩=>l.length
 | ⟨.str,l⟩=>l.length
 | _=>0
abbrev Dyn.dflt:Dyn:=⟨.bool,false⟩

def Ty.flat:(τ:Ty)→τ.D→List Dyn
 | .pair a b,x=>a.flat x.1++b.flat x.2
 | .one a,x=>a.flat x
 | .int k,x=>[⟨.int k,x⟩]
 | .bool,x=>[⟨.bool,x⟩]
 | .str,x=>[⟨.str,x⟩]
 | .tree,x=>[⟨.tree,x⟩]
 | .list f e,x=>[⟨.list f e,x⟩]
theorem Ty.flat_cells:∀ (τ:Ty) (x:τ.D),τ.cells x=(τ.flat x).map Dyn.av
 | .int _,_=>rfl
 | .bool,_=>rfl
 | .str,_=>rfl
 | .tree,_=>rfl
 | .list _ _,_=>rfl
 | .pair a b,x=>by simp [Ty.cells,Ty.flat,Ty.flat_cells a,Ty.flat_cells b]
 | .one a,x=>Ty.flat_cells a x

inductive SV where
 | var (j:Nat)
 | len (j:Nat)
 | int (k:IntKind) (n:Int)
 | bool (b:Bool)
 | str (l:List UInt8)
 | nilp | nils | nilf | nilm | und | any
 | ptr (cs:List SV)
 | slc (cs:List SV) (n:Nat) (full:Bool)
 | ref (key off:Nat)
 | elt (key sz:Nat) (i:SV)
 | row (key j:Nat)
 | fn (f:Nat) (first caps:List SV)
 | mp (key:Nat)
 | it (key:Nat)
 | agg (cs:List SV)
 | tup (cs:List SV)

abbrev bW:=Nat→Dyn
abbrev jI:=Nat→Nat

def intOf (ρ:bW):SV→Option Int
 | .int _ n=>some n
 | .len j=>some ((vH (ρ j):Nat):Int)
 | .var j=>match ρ j with
  | ⟨.int _,n⟩=>some n
  | _=>none
 | _=>none

mutual
def aL (ρ:bW) (ids:jI):SV→AV
 | .var j=>(ρ j).av
 | .len j=>.i ((vH (ρ j):Nat):Int)
 | .int k n=>.lit (.int k n)
 | .bool b=>.b b
 | .str l=>.s l
 | .nilp=>.nil
 | .nils=>.lit (.slice none 0 0)
 | .nilf=>.lit .nilFunc
 | .nilm=>.lit (.map none)
 | .und=>.lit undef
 | .any=>.any
 | .ptr cs=>.ptr (bQ ρ ids cs)
 | .slc cs n f=>.slc (bQ ρ ids cs) n f
 | .ref key off=>.ref (ids key) off
 | .elt key sz i=>match intOf ρ i with
  | some n=>.ref (ids key) (n.toNat * sz)
  | none=>.any
 | .row key j=>.row (ids key) (vH (ρ j))
 | .fn f a b=>.fn (.func f) (bQ ρ ids a) (bQ ρ ids b)
 | .mp key=>.mp (ids key)
 | .it key=>.it (ids key)
 | .agg cs=>.agg (bQ ρ ids cs)
 | .tup cs=>.tup (bQ ρ ids cs)
def bQ (ρ:bW) (ids:jI):List SV→List AV
 | []=>[]
 | x :: xs=>aL ρ ids x :: bQ ρ ids xs
end

theorem cH (ρ:bW) (ids:jI):∀ l,bQ ρ ids l=l.map (aL ρ ids)
 | []=>by simp [bQ]
 | x :: xs=>by simp [bQ,cH ρ ids xs]

/-! ### equality of deep values -/
def keq:IntKind→IntKind→Bool
 | .i8,.i8 | .i16,.i16 | .i32,.i32 | .i64,.i64 | .u8,.u8 | .u16,.u16 | .u32,.u32 | .u64,.u64=>true
 | _,_=>false
theorem aFC {a b:IntKind} (h:keq a b=true):a=b:=by cases a <;> cases b <;> first | rfl | cases h

def ieq:Int→Int→Bool
 | .ofNat a,.ofNat b=>Nat.beq a b
 | .negSucc a,.negSucc b=>Nat.beq a b
 | _,_=>false
theorem bDb {a b:Int} (h:ieq a b=true):a=b:=by
 cases a <;> cases b <;> simp only [ieq] at h <;> first | (rw [Nat.eq_of_beq_eq_true h]) | cases h

def aYn:Bool→Bool→Bool
 | true,true | false,false=>true
 | _,_=>false
theorem aIL {a b:Bool} (h:aYn a b=true):a=b:=by cases a <;> cases b <;> first | rfl | cases h

def aIS:List UInt8→List UInt8→Bool
 | [],[]=>true
 | x :: xs,y :: ys=>Nat.beq x.toNat y.toNat && aIS xs ys
 | _,_=>false
theorem aN8:∀ {a b:List UInt8},aIS a b=true→a=b
 | [],[],_=>rfl
 | [],_ :: _,h=>by simp [aIS] at h
 | _ :: _,[],h=>by simp [aIS] at h
 | x :: xs,y :: ys,h=>by
  simp only [aIS,Bool.and_eq_true] at h
  rw [aN8 h.2,UInt8.toNat_inj.1 (Nat.eq_of_beq_eq_true h.1)]

mutual
def SV.beq:SV→SV→Bool
 | .var a,.var b | .len a,.len b | .mp a,.mp b | .it a,.it b=>Nat.beq a b
 | .int k n,.int j m=>keq k j && ieq n m
 | .bool a,.bool b=>aYn a b
 | .str a,.str b=>aIS a b
 | .nilp,.nilp | .nils,.nils | .nilf,.nilf | .nilm,.nilm | .und,.und | .any,.any=>true
 | .ptr a,.ptr b | .agg a,.agg b | .tup a,.tup b=>SV.beqs a b
 | .slc a n f,.slc b m g=>SV.beqs a b && Nat.beq n m && aYn f g
 | .ref a n,.ref b m | .row a n,.row b m=>Nat.beq a b && Nat.beq n m
 | .elt a n x,.elt b m y=>Nat.beq a b && Nat.beq n m && SV.beq x y
 | .fn f a b,.fn g c d=>Nat.beq f g && SV.beqs a c && SV.beqs b d
 | _,_=>false
def SV.beqs:List SV→List SV→Bool
 | [],[]=>true
 | x :: xs,y :: ys=>SV.beq x y && SV.beqs xs ys
 | _,_=>false
end

mutual
theorem SV.beq_eq:∀ (a b:SV),SV.beq a b=true→a=b
 | .var a,b,h=>by cases b <;> simp only [SV.beq] at h <;> first | (cases h; done) | (rw [Nat.eq_of_beq_eq_true h])
 | .len a,b,h=>by cases b <;> simp only [SV.beq] at h <;> first | (cases h; done) | (rw [Nat.eq_of_beq_eq_true h])
 | .mp a,b,h=>by cases b <;> simp only [SV.beq] at h <;> first | (cases h; done) | (rw [Nat.eq_of_beq_eq_true h])
 | .it a,b,h=>by cases b <;> simp only [SV.beq] at h <;> first | (cases h; done) | (rw [Nat.eq_of_beq_eq_true h])
 | .int k n,b,h=>by
  cases b <;> simp only [SV.beq] at h <;> first | (cases h; done) | skip
  simp only [Bool.and_eq_true] at h
  rw [aFC h.1,bDb h.2]
 | .bool a,b,h=>by cases b <;> simp only [SV.beq] at h <;> first | (cases h; done) | (rw [aIL h])
 | .str a,b,h=>by cases b <;> simp only [SV.beq] at h <;> first | (cases h; done) | (rw [aN8 h])
 | .nilp,b,h=>by cases b <;> simp only [SV.beq] at h <;> first | (cases h; done) | rfl
 | .nils,b,h=>by cases b <;> simp only [SV.beq] at h <;> first | (cases h; done) | rfl
 | .nilf,b,h=>by cases b <;> simp only [SV.beq] at h <;> first | (cases h; done) | rfl
 | .nilm,b,h=>by cases b <;> simp only [SV.beq] at h <;> first | (cases h; done) | rfl
 | .und,b,h=>by cases b <;> simp only [SV.beq] at h <;> first | (cases h; done) | rfl
 | .any,b,h=>by cases b <;> simp only [SV.beq] at h <;> first | (cases h; done) | rfl
 | .ptr a,b,h=>by cases b <;> simp only [SV.beq] at h <;> first | (cases h; done) | (rw [SV.beqs_eq _ _ h])
 | .agg a,b,h=>by cases b <;> simp only [SV.beq] at h <;> first | (cases h; done) | (rw [SV.beqs_eq _ _ h])
 | .tup a,b,h=>by cases b <;> simp only [SV.beq] at h <;> first | (cases h; done) | (rw [SV.beqs_eq _ _ h])
 | .slc a n f,b,h=>by
  cases b <;> simp only [SV.beq] at h <;> first | (cases h; done) | skip
  simp only [Bool.and_eq_true] at h
  rw [SV.beqs_eq _ _ h.1.1,Nat.eq_of_beq_eq_true h.1.2,aIL h.2]
 | .ref a n,b,h=>by
  cases b <;> simp only [SV.beq] at h <;> first | (cases h; done) | skip
  simp only [Bool.and_eq_true] at h
  rw [Nat.eq_of_beq_eq_true h.1,Nat.eq_of_beq_eq_true h.2]
 | .row a n,b,h=>by
  cases b <;> simp only [SV.beq] at h <;> first | (cases h; done) | skip
  simp only [Bool.and_eq_true] at h
  rw [Nat.eq_of_beq_eq_true h.1,Nat.eq_of_beq_eq_true h.2]
 | .elt a n x,b,h=>by
  cases b <;> simp only [SV.beq] at h <;> first | (cases h; done) | skip
  simp only [Bool.and_eq_true] at h
  rw [Nat.eq_of_beq_eq_true h.1.1,Nat.eq_of_beq_eq_true h.1.2,SV.beq_eq _ _ h.2]
 | .fn f a b',b,h=>by
  cases b <;> simp only [SV.beq] at h <;> first | (cases h; done) | skip
  simp only [Bool.and_eq_true] at h
  rw [Nat.eq_of_beq_eq_true h.1.1,SV.beqs_eq _ _ h.1.2,SV.beqs_eq _ _ h.2]
theorem SV.beqs_eq:∀ (a b:List SV),SV.beqs a b=true→a=b
 | [],b,h=>by cases b <;> simp only [SV.beqs] at h <;> first | rfl | cases h
 | x :: xs,b,h=>by
  cases b <;> simp only [SV.beqs] at h <;> first | (cases h; done) | skip
  simp only [Bool.and_eq_true] at h
  rw [SV.beq_eq _ _ h.1,SV.beqs_eq _ _ h.2]
end

/-! ### what is spoken of is there -/
mutual
def SV.ok (nv nk:Nat):SV→Bool
 | .var j | .len j=>Nat.blt j nv
 | .ptr cs | .agg cs | .tup cs | .slc cs _ _=>SV.oks nv nk cs
 | .ref key _ | .mp key | .it key=>Nat.blt key nk
 | .elt key _ i=>Nat.blt key nk && SV.ok nv nk i
 | .row key j=>Nat.blt key nk && Nat.blt j nv
 | .fn _ a b=>SV.oks nv nk a && SV.oks nv nk b
 | _=>true
def SV.oks (nv nk:Nat):List SV→Bool
 | []=>true
 | x :: xs=>SV.ok nv nk x && SV.oks nv nk xs
end

def bW.agree (nv:Nat) (ρ ρ':bW):Prop:=∀ j,j<nv→ρ' j=ρ j
def jI.agree (nk:Nat) (i i':jI):Prop:=∀ j,j<nk→i' j=i j

theorem mP {a b:Nat} (h:Nat.blt a b=true):a<b:=by simpa using h

theorem aZt {nv nk:Nat} {ρ ρ':bW} (hr:bW.agree nv ρ ρ'):∀ {x:SV},SV.ok nv nk x=true→intOf ρ' x=intOf ρ x:=by
 intro x h
 cases x <;> simp only [SV.ok] at h <;> simp only [intOf]
 ·rw [hr _ (mP h)]
 ·rw [hr _ (mP h)]

mutual
theorem aNz {nv nk:Nat} {ρ ρ':bW} {i i':jI} (hr:bW.agree nv ρ ρ') (hi:jI.agree nk i i'):∀ (x:SV),SV.ok nv nk x=true→aL ρ' i' x=aL ρ i x
 | .var j,h=>by simp only [SV.ok] at h; simp only [aL]; rw [hr j (mP h)]
 | .len j,h=>by simp only [SV.ok] at h; simp only [aL]; rw [hr j (mP h)]
 | .int _ _,_ | .bool _,_ | .str _,_ | .nilp,_ | .nils,_ | .nilf,_ | .nilm,_ | .und,_ | .any,_=>by simp only [aL]
 | .ptr cs,h=>by simp only [SV.ok] at h; simp only [aL]; rw [oS hr hi cs h]
 | .agg cs,h=>by simp only [SV.ok] at h; simp only [aL]; rw [oS hr hi cs h]
 | .tup cs,h=>by simp only [SV.ok] at h; simp only [aL]; rw [oS hr hi cs h]
 | .slc cs _ _,h=>by simp only [SV.ok] at h; simp only [aL]; rw [oS hr hi cs h]
 | .ref k _,h=>by simp only [SV.ok] at h; simp only [aL]; rw [hi k (mP h)]
 | .mp k,h=>by simp only [SV.ok] at h; simp only [aL]; rw [hi k (mP h)]
 | .it k,h=>by simp only [SV.ok] at h; simp only [aL]; rw [hi k (mP h)]
 | .elt k _ i,h=>by
  simp only [SV.ok,Bool.and_eq_true] at h
  simp only [aL]
  rw [aZt hr h.2,hi k (mP h.1)]
 | .row k j,h=>by
  simp only [SV.ok,Bool.and_eq_true] at h
  simp only [aL]
  rw [hr j (mP h.2),hi k (mP h.1)]
 | .fn f a b,h=>by
  simp only [SV.ok,Bool.and_eq_true] at h
  simp only [aL]
  rw [oS hr hi a h.1,oS hr hi b h.2]
theorem oS {nv nk:Nat} {ρ ρ':bW} {i i':jI} (hr:bW.agree nv ρ ρ') (hi:jI.agree nk i i'):∀ (x:List SV),SV.oks nv nk x=true→bQ ρ' i' x=bQ ρ i x
 | [],_=>rfl
 | x :: xs,h=>by
  simp only [SV.oks,Bool.and_eq_true] at h
  simp only [bQ]
  rw [aNz hr hi x h.1,oS hr hi xs h.2]
end

/-! ### objects, states -/
inductive OB where
 | cells (e sz:Nat) (cs:List SV) (fz:Bool)
 | list (e j:Nat) (fz:Option Nat)
 | map (j:Nat)
 | iter (j p:Nat)
 | glob (b j:Nat)

def OB.beq:OB→OB→Bool
 | .cells e n cs f,.cells e' n' cs' f'=>Nat.beq e e' && Nat.beq n n' && SV.beqs cs cs' && aYn f f'
 | .list e j none,.list e' j' none=>Nat.beq e e' && Nat.beq j j'
 | .list e j (some k),.list e' j' (some k')=>Nat.beq e e' && Nat.beq j j' && Nat.beq k k'
 | .map j,.map j'=>Nat.beq j j'
 | .iter j p,.iter j' p'=>Nat.beq j j' && Nat.beq p p'
 | .glob b j,.glob b' j'=>Nat.beq b b' && Nat.beq j j'
 | _,_=>false
theorem OB.beq_eq {a b:OB} (h:OB.beq a b=true):a=b:=by
 unfold OB.beq at h
 split at h <;> (try simp only [Bool.and_eq_true] at h)
 ·rw [Nat.eq_of_beq_eq_true h.1.1.1,Nat.eq_of_beq_eq_true h.1.1.2,SV.beqs_eq _ _ h.1.2,aIL h.2]
 ·rw [Nat.eq_of_beq_eq_true h.1,Nat.eq_of_beq_eq_true h.2]
 ·rw [Nat.eq_of_beq_eq_true h.1.1,Nat.eq_of_beq_eq_true h.1.2,Nat.eq_of_beq_eq_true h.2]
 ·rw [Nat.eq_of_beq_eq_true h]
 ·rw [Nat.eq_of_beq_eq_true h.1,Nat.eq_of_beq_eq_true h.2]
 ·rw [Nat.eq_of_beq_eq_true h.1,Nat.eq_of_beq_eq_true h.2]
 ·cases h

def OB.ok (nv nk:Nat):OB→Bool
 | .cells _ _ cs _=>SV.oks nv nk cs
 | .list _ j none=>Nat.blt j nv
 | .list _ j (some k)=>Nat.blt j nv && Nat.blt k nv
 | .map j=>Nat.blt j nv
 | .iter j p=>Nat.blt j nv && Nat.blt p nv
 | .glob _ j=>Nat.blt j nv

def aCf (ρ:bW) (n:Nat):Option Nat→Nat
 | none=>0
 | some k=>vH (ρ k) * n

def mapOf:Dyn→List (Value×AV)
 | ⟨.list _ (.pair .str τ),l⟩=>l.map fun p=>(.string ⟨p.1.toArray⟩,τ.av p.2)
 | _=>[]

def dQ (ρ:bW) (ids:jI):OB→Ob
 | .cells e n cs f=>.row e n (bQ ρ ids cs) (if f then cs.length else 0)
 | .list e j fz=>match ρ j with
  | ⟨.list _ τ,l⟩=>.row e τ.n (l.flatMap τ.cells) (aCf ρ τ.n fz)
  | _=>.iter .empty 0
 | .map j=>.map (mapOf (ρ j))
 | .iter j p=>match ρ j,ρ p with
  | ⟨.str,l⟩,⟨.int _,n⟩=>.iter ⟨l.toArray⟩ n.toNat
  | _,_=>.iter .empty 0
 | .glob b j=>match ρ j with
  | ⟨.list _ τ,l⟩=>.glob b (l.flatMap τ.cells)
  | _=>.iter .empty 0

theorem aAz {nv nk:Nat} {ρ ρ':bW} {i i':jI} (hr:bW.agree nv ρ ρ') (hi:jI.agree nk i i') {x:OB} (h:OB.ok nv nk x=true):dQ ρ' i' x=dQ ρ i x:=by
 cases x with
 | cells e n cs f=>simp only [OB.ok] at h; simp only [dQ]; rw [oS hr hi cs h]
 | list e j fz =>
  cases fz with
  | none =>
   simp only [OB.ok] at h
   simp only [dQ]
   rw [hr j (mP h)]
   rfl
  | some k =>
   simp only [OB.ok,Bool.and_eq_true] at h
   simp only [dQ]
   rw [hr j (mP h.1)]
   simp only [aCf]
   rw [hr k (mP h.2)]
 | map j=>simp only [OB.ok] at h; simp only [dQ]; rw [hr j (mP h)]
 | iter j p =>
  simp only [OB.ok,Bool.and_eq_true] at h
  simp only [dQ]
  rw [hr j (mP h.1),hr p (mP h.2)]
 | glob b j=>simp only [OB.ok] at h; simp only [dQ]; rw [hr j (mP h)]

structure St where
 live:List (Nat×SV)
 sto:List (Nat×OB)
 nv:Nat
 nk:Nat

def eA (st:St) (ρ:bW) (ids:jI):mA:=fun k=>match lk st.live k with
 | some x=>aL ρ ids x
 | none=>.any
def bL (l:List (Nat×OB)) (ρ:bW) (ids:jI):aN:=l.map fun p=>(ids p.1,dQ ρ ids p.2)

def aNF (nv nk:Nat):List (Nat×SV)→Bool
 | []=>true
 | p :: l=>SV.ok nv nk p.2 && aNF nv nk l
def aJF (nv nk:Nat):List (Nat×OB)→Bool
 | []=>true
 | p :: l=>Nat.blt p.1 nk && OB.ok nv nk p.2 && aJF nv nk l
def St.ok (st:St):Bool:=aNF st.nv st.nk st.live && aJF st.nv st.nk st.sto

theorem aQw {nv nk:Nat}:∀ {l:List (Nat×SV)} {k:Nat} {x:SV},aNF nv nk l=true→lk l k=some x→SV.ok nv nk x=true
 | [],_,_,_,h=>by simp [lk] at h
 | p :: l,k,x,h,e=>by
  simp only [aNF,Bool.and_eq_true] at h
  unfold lk at e
  split at e
  ·cases e; exact h.1
  ·exact aQw h.2 e

theorem pG {nv nk:Nat} {ρ ρ':bW} {i i':jI} (hr:bW.agree nv ρ ρ') (hi:jI.agree nk i i'):∀ {l:List (Nat×OB)},aJF nv nk l=true→bL l ρ' i'=bL l ρ i
 | [],_=>rfl
 | p :: l,h=>by
  simp only [aJF,Bool.and_eq_true] at h
  simp only [bL,List.map_cons,List.cons.injEq]
  refine ⟨?_,pG hr hi h.2⟩
  rw [hi p.1 (mP h.1.1),aAz hr hi h.1.2]

theorem rB {st:St} {ρ ρ':bW} {i i':jI} (hr:bW.agree st.nv ρ ρ') (hi:jI.agree st.nk i i') (h:aNF st.nv st.nk st.live=true):eA st ρ' i'=eA st ρ i:=by
 funext k
 unfold eA
 cases e:lk st.live k with
 | none=>rfl
 | some x=>exact aNz hr hi x (aQw h e)

def vI (ρ:bW) (nv:Nat) (ds:List Dyn):bW:=fun j=>if Nat.blt j nv then ρ j else ds.getD (j - nv) .dflt
theorem jC (ρ:bW) (nv:Nat) (ds:List Dyn):bW.agree nv ρ (vI ρ nv ds):=fun j hj=>by
 unfold vI
 rw [if_pos (by simpa using hj)]
theorem aB3 (ρ:bW) (nv:Nat) (ds:List Dyn) (k:Nat) (d:Dyn) (h:ds[k]?=some d):vI ρ nv ds (nv+k)=d:=by
 unfold vI
 rw [if_neg (by simp)]
 simp [h]
def upd (ρ:bW) (j:Nat) (d:Dyn):bW:=fun k=>if Nat.beq k j then d else ρ k
theorem upd_same {ρ:bW} {j:Nat} {d:Dyn} (h:ρ j=d):upd ρ j d=ρ:=by
 funext k
 unfold upd
 by_cases e:k=j
 ·subst e; rw [eB,if_pos rfl]; exact h.symm
 ·rw [fN e]; rfl

end Go.Sx

/- The executor, part 2: a deep value as a typed one; sealing; patterns. -/
namespace Go.Sx
open Go Go.Am

def Ty.beq:Ty→Ty→Bool
 | .int a,.int b=>keq a b
 | .bool,.bool | .str,.str | .tree,.tree=>true
 | .list f a,.list g b=>aYn f g && Ty.beq a b
 | .pair a b,.pair c d=>Ty.beq a c && Ty.beq b d
 | .one a,.one b=>Ty.beq a b
 | _,_=>false
theorem Ty.beq_eq:∀ {a b:Ty},Ty.beq a b=true→a=b
 | .int a,b,h=>by cases b <;> simp only [Ty.beq] at h <;> first | (cases h; done) | rw [aFC h]
 | .bool,b,h=>by cases b <;> simp only [Ty.beq] at h <;> first | (cases h; done) | rfl
 | .str,b,h=>by cases b <;> simp only [Ty.beq] at h <;> first | (cases h; done) | rfl
 | .tree,b,h=>by cases b <;> simp only [Ty.beq] at h <;> first | (cases h; done) | rfl
 | .list f a,b,h=>by
  cases b <;> simp only [Ty.beq] at h <;> first | (cases h; done) | skip
  simp only [Bool.and_eq_true] at h
  rw [aIL h.1,Ty.beq_eq h.2]
 | .pair a c,b,h=>by
  cases b <;> simp only [Ty.beq] at h <;> first | (cases h; done) | skip
  simp only [Bool.and_eq_true] at h
  rw [Ty.beq_eq h.1,Ty.beq_eq h.2]
 | .one a,b,h=>by
  cases b <;> simp only [Ty.beq] at h <;> first | (cases h; done) | skip
  rw [Ty.beq_eq h]

def aEf:(τ:Ty)→Dyn→Option τ.D
 | .int k,⟨.int k',n⟩=>if keq k k' then some n else none
 | .bool,⟨.bool,b⟩=>some b
 | .str,⟨.str,l⟩=>some l
 | .tree,⟨.tree,t⟩=>some t
 | .list f e,⟨.list f' e',l⟩=>if f' || !f then (if h:Ty.beq e' e=true then some (Ty.beq_eq h ▸ l) else none) else none
 | _,_=>none

theorem aP4 {f:Bool} {e:Ty} {d:Dyn} {x:List e.D} (h:aEf (.list f e) d=some x):∃ f',d=⟨.list f' e,x⟩∧(f=true→f'=true):=by
 obtain ⟨τ,v⟩:=d
 cases τ <;> simp only [aEf] at h <;> first | (cases h; done) | skip
 rename_i f' e'
 split at h
 ·rename_i hf
  split at h
  ·rename_i he
   have he':=Ty.beq_eq he
   subst he'
   cases h
   exact ⟨f',rfl,by cases f <;> cases f' <;> simp_all⟩
  ·cases h
 ·cases h

theorem bBQ {τ:Ty} {d:Dyn} {x:τ.D} (h:aEf τ d=some x):jS d.av (τ.av x):=by
 cases τ with
 | list f e =>
  obtain ⟨f',rfl,hf⟩:=aP4 h
  cases f with
  | false=>exact jS.slc_full _ _ _
  | true=>rw [hf rfl]; exact jS.refl _
 | int k =>
  obtain ⟨τ,v⟩:=d
  cases τ <;> simp only [aEf] at h <;> first | (cases h; done) | skip
  split at h
  ·rename_i hk; cases h; rw [aFC hk]; exact jS.refl _
  ·cases h
 | bool=>obtain ⟨τ,v⟩:=d; cases τ <;> simp only [aEf] at h <;> first | (cases h; done) | (cases h; exact jS.refl _)
 | str=>obtain ⟨τ,v⟩:=d; cases τ <;> simp only [aEf] at h <;> first | (cases h; done) | (cases h; exact jS.refl _)
 | tree=>obtain ⟨τ,v⟩:=d; cases τ <;> simp only [aEf] at h <;> first | (cases h; done) | (cases h; exact jS.refl _)
 | pair a b=>obtain ⟨τ,v⟩:=d; cases τ <;> simp only [aEf] at h <;> cases h
 | one a=>obtain ⟨τ,v⟩:=d; cases τ <;> simp only [aEf] at h <;> cases h

/-! ### views -/
end Go.Sx
namespace Go.Am
open Go
section
variable {s:aN}
theorem VW.append:∀ {xs ys us vs:List AV},VW s xs ys→VW s us vs→VW s (xs++us) (ys++vs)
 | [],_,_,_,h,k=>by rw [h]; exact k
 | x :: xs,_,_,_,⟨y,ys,h1,h2,h3⟩,k=>by subst h1; exact ⟨y,_,rfl,h2,VW.append h3 k⟩
theorem VW.vc {w m i} (hr:nX w m i s):∀ {xs ys:List AV} {b o:Nat},VW s xs ys→VC m i xs b o→VC m i ys b o
 | [],_,_,_,h,k=>by rw [h]; exact k
 | x :: xs,_,b,o,⟨y,ys,h1,h2,h3⟩,⟨⟨v,k1,k2⟩,k3⟩=>by subst h1; exact ⟨⟨v,k1,h2 _ _ _ _ hr k2⟩,VW.vc hr h3 k3⟩
theorem VW.length:∀ {xs ys:List AV},VW s xs ys→ys.length=xs.length
 | [],_,h=>by rw [h]
 | x :: xs,_,⟨y,ys,h1,_,h3⟩=>by subst h1; simp [VW.length h3]
theorem eM.ptr {xs ys:List AV} (h:VW s xs ys):eM s (.ptr xs) (.ptr ys):=fun _ _ _ _ hr ⟨b,o,h1,h2⟩=>⟨b,o,h1,h.vc hr h2⟩
theorem eM.agg {xs ys:List AV} (h:VW s xs ys):eM s (.agg xs) (.agg ys):=fun _ _ _ _ hr ⟨vs,h1,h0,h2⟩=>⟨vs,h1,h0,h.vl hr h2⟩
theorem eM.slc {xs ys:List AV} {n:Nat} {f:Bool} (h:VW s xs ys):eM s (.slc xs n f) (.slc ys n f):=by
 intro w m i v hr hv
 rcases hv with ⟨h1,h2,h3⟩ | ⟨b,o,cap,h1,h2,h3,h4,h5⟩
 ·subst h2
  have:ys=[]:=by rw [← List.length_eq_zero_iff,h.length]; rfl
  exact .inl ⟨h1,this,h3⟩
 ·exact .inr ⟨b,o,cap,h1,h2,h3,h4,h.vc hr h5⟩
end
end Go.Am
namespace Go.Sx
open Go Go.Am
theorem bCU {α:Type} (g:α→AV) (l:List α):l.flatMap (fun x=>[g x])=l.map g:=by
 induction l with
 | nil=>rfl
 | cons x l ih=>rw [List.flatMap_cons,ih]; rfl
theorem aVY (l:List Tr):l.flatMap (Ty.cells .tree)=l.map .tree:=bCU AV.tree l

/-! ### a deep value as a typed one -/
def aII (f:(τ:Ty)→SV→Option τ.D):(τ:Ty)→List SV→Option (τ.D×List SV)
 | .pair a b,cs=>(aII f a cs).bind fun p=>(aII f b p.2).bind fun q=>some ((p.1,q.1),q.2)
 | .one a,cs=>aII f a cs
 | .int k,c :: cs=>(f (.int k) c).bind fun x=>some (x,cs)
 | .bool,c :: cs=>(f .bool c).bind fun x=>some (x,cs)
 | .str,c :: cs=>(f .str c).bind fun x=>some (x,cs)
 | .tree,c :: cs=>(f .tree c).bind fun x=>some (x,cs)
 | .list g e,c :: cs=>(f (.list g e) c).bind fun x=>some (x,cs)
 | _,[]=>none

def aH9 (f:(τ:Ty)→SV→Option τ.D) (e:Ty):Nat→List SV→Option (List e.D)
 | 0,[]=>some []
 | 0,_=>none
 | n+1,cs=>(aII f e cs).bind fun p=>(aH9 f e n p.2).bind fun r=>some (p.1 :: r)

def aW6 (f:(τ:Ty)→SV→Option τ.D):List SV→Option Tr
 | [a,b,c,d,e]=>(f (.int .i64) a).bind fun k=>(f (.int .i64) b).bind fun n=>(f .str c).bind fun nm=>(f .str d).bind fun mk=>(f (.list false .tree) e).bind fun ks=>some (.node k n nm mk ks)
 | _=>none

def aIf:Nat→List (Nat×OB)→bW→(τ:Ty)→SV→Option τ.D
 | 0,_,_,_,_=>none
 | m+1,sto,ρ,τ,x=>match τ with
  | .int k=>match x with
   | .int k' n=>if keq k k' then some n else none
   | .len j=>if keq k .i64 then some ((vH (ρ j):Nat):Int) else none
   | .var j=>aEf (.int k) (ρ j)
   | _=>none
  | .bool=>match x with
   | .bool b=>some b
   | .var j=>aEf .bool (ρ j)
   | _=>none
  | .str=>match x with
   | .str l=>some l
   | .var j=>aEf .str (ρ j)
   | _=>none
  | .tree=>match x with
   | .var j=>aEf .tree (ρ j)
   | .nilp=>some .nil
   | .ptr cs=>aW6 (aIf m sto ρ) cs
   | .ref key 0=>match lk sto key with
    | some (.cells _ _ cs true)=>aW6 (aIf m sto ρ) cs
    | _=>none
   | _=>none
  | .list f e=>match x with
   | .var j=>aEf (.list f e) (ρ j)
   | .nils=>some []
   | .slc cs n f'=>if f' || !f then aH9 (aIf m sto ρ) e n cs else none
   | .row key j=>if f then none else match lk sto key with
    | some (.list _ j' (some z))=>if Nat.beq j j' && Nat.beq j z then aEf (.list false e) (ρ j) else none
    | some (.cells _ _ _cs true)=>none
    | _=>none
   | _=>none
  | .pair a b=>match x with
   | .agg cs=>(aII (aIf m sto ρ) (.pair a b) cs).bind fun p=>match p.2 with
    | []=>some p.1
    | _=>none
   | _=>none
  | .one a=>match x with
   | .agg cs=>(aII (aIf m sto ρ) a cs).bind fun p=>match p.2 with
    | []=>some p.1
    | _=>none
   | _=>none

theorem Ty.cells_scalar (τ:Ty) (x:τ.D) (h:∀ a b,τ≠.pair a b) (h2:∀ a,τ≠.one a):τ.cells x=[τ.av x]:=by
 cases τ <;> first | rfl | exact absurd rfl (h _ _) | exact absurd rfl (h2 _)

section
variable {s:aN} {ρ:bW} {ids:jI} {f:(τ:Ty)→SV→Option τ.D}

theorem aEt (hf:∀ τ x v,f τ x=some v→eM s (aL ρ ids x) (τ.av v)):∀ (τ:Ty) (cs:List SV) (v:τ.D) (rest:List SV),aII f τ cs=some (v,rest) →
  ∃ cs1,cs=cs1++rest∧VW s (bQ ρ ids cs1) (τ.cells v)
 | .pair a b,cs,v,rest,h=>by
  simp only [aII] at h
  obtain ⟨p,h1,h⟩:=aM h
  obtain ⟨q,h2,h⟩:=aM h
  cases h
  obtain ⟨c1,e1,w1⟩:=aEt hf a cs p.1 p.2 h1
  obtain ⟨c2,e2,w2⟩:=aEt hf b p.2 q.1 q.2 h2
  refine ⟨c1++c2,by rw [e1,e2,List.append_assoc],?_⟩
  rw [cH,List.map_append,← cH,← cH]
  exact VW.append w1 w2
 | .one a,cs,v,rest,h=>by
  simp only [aII] at h
  exact aEt hf a cs v rest h
 | .int k,c :: cs,v,rest,h=>by
  simp only [aII] at h
  obtain ⟨x,h1,h⟩:=aM h
  cases h
  exact ⟨[c],rfl,VW.cons (hf _ _ _ h1) VW.nil⟩
 | .bool,c :: cs,v,rest,h=>by
  simp only [aII] at h
  obtain ⟨x,h1,h⟩:=aM h
  cases h
  exact ⟨[c],rfl,VW.cons (hf _ _ _ h1) VW.nil⟩
 | .str,c :: cs,v,rest,h=>by
  simp only [aII] at h
  obtain ⟨x,h1,h⟩:=aM h
  cases h
  exact ⟨[c],rfl,VW.cons (hf _ _ _ h1) VW.nil⟩
 | .tree,c :: cs,v,rest,h=>by
  simp only [aII] at h
  obtain ⟨x,h1,h⟩:=aM h
  cases h
  exact ⟨[c],rfl,VW.cons (hf _ _ _ h1) VW.nil⟩
 | .list g e,c :: cs,v,rest,h=>by
  simp only [aII] at h
  obtain ⟨x,h1,h⟩:=aM h
  cases h
  exact ⟨[c],rfl,VW.cons (hf _ _ _ h1) VW.nil⟩
 | .int _,[],_,_,h=>by simp [aII] at h
 | .bool,[],_,_,h=>by simp [aII] at h
 | .str,[],_,_,h=>by simp [aII] at h
 | .tree,[],_,_,h=>by simp [aII] at h
 | .list _ _,[],_,_,h=>by simp [aII] at h

theorem aMP (hf:∀ τ x v,f τ x=some v→eM s (aL ρ ids x) (τ.av v)) {e:Ty}:∀ (n:Nat) (cs:List SV) (l:List e.D),aH9 f e n cs=some l →
  l.length=n∧VW s (bQ ρ ids cs) (l.flatMap e.cells)
 | 0,[],l,h=>by simp [aH9] at h; subst h; exact ⟨rfl,VW.nil⟩
 | 0,_ :: _,l,h=>by simp [aH9] at h
 | n+1,cs,l,h=>by
  simp only [aH9] at h
  obtain ⟨p,h1,h⟩:=aM h
  obtain ⟨r,h2,h⟩:=aM h
  cases h
  obtain ⟨c1,e1,w1⟩:=aEt hf e cs p.1 p.2 h1
  obtain ⟨q1,q2⟩:=aMP hf n p.2 r h2
  refine ⟨by simp [q1],?_⟩
  rw [e1,cH,List.map_append,← cH,← cH,List.flatMap_cons]
  exact VW.append w1 q2

theorem aRk (hf:∀ τ x v,f τ x=some v→eM s (aL ρ ids x) (τ.av v)) {cs:List SV} {t:Tr} (h:aW6 f cs=some t) :
  eM s (.ptr (bQ ρ ids cs)) (.tree t):=by
 unfold aW6 at h
 split at h
 ·rename_i a b c d e
  obtain ⟨k,h1,h⟩:=aM h
  obtain ⟨n,h2,h⟩:=aM h
  obtain ⟨nm,h3,h⟩:=aM h
  obtain ⟨mk,h4,h⟩:=aM h
  obtain ⟨ks,h5,h⟩:=aM h
  cases h
  have h5':=hf _ _ _ h5
  simp only [Ty.av] at h5'
  rw [aVY] at h5'
  simp only [bQ]
  exact (eM.ptr (VW.cons (hf _ _ _ h1) (VW.cons (hf _ _ _ h2) (VW.cons (hf _ _ _ h3) (VW.cons (hf _ _ _ h4) (VW.cons h5' VW.nil)))))).trans (eM.of_weak (jS.node_tree k n nm mk ks))
 ·cases h
end

theorem bD2 {α:Type}:∀ {l:List (Nat×α)} {k:Nat} {v:α},lk l k=some v→∃ j:Nat,l[j]?=some (k,v)
 | [],_,_,h=>by simp [lk] at h
 | (k',u) :: l,k,v,h=>by
  unfold lk at h
  by_cases e:k=k'
  ·subst e; rw [eB,if_pos rfl] at h; cases h; exact ⟨0,rfl⟩
  ·rw [fN e] at h
   obtain ⟨j,hj⟩:=bD2 (l:=l) h
   exact ⟨j+1,hj⟩

theorem aF3 {l:List (Nat×OB)} {ρ:bW} {ids:jI} {k:Nat} {o:OB} (h:lk l k=some o):∃ j:Nat,(bL l ρ ids)[j]?=some (ids k,dQ ρ ids o):=by
 obtain ⟨j,hj⟩:=bD2 h
 exact ⟨j,by simp [bL,hj]⟩

theorem fE (ρ:bW) (ids:jI) (l:List SV):(bQ ρ ids l).length=l.length:=by rw [cH]; simp

theorem aEr {sto:List (Nat×OB)} {ρ:bW} {ids:jI}:∀ (m:Nat) (τ:Ty) (x:SV) (v:τ.D),aIf m sto ρ τ x=some v→eM (bL sto ρ ids) (aL ρ ids x) (τ.av v)
 | 0,_,_,_,h=>by simp [aIf] at h
 | m+1,τ,x,v,h=>by
  have ih:=aEr (sto:=sto) (ρ:=ρ) (ids:=ids) m
  have hg:∀ {τ:Ty} {j:Nat} {v:τ.D},aEf τ (ρ j)=some v→eM (bL sto ρ ids) (aL ρ ids (.var j)) (τ.av v):=fun h=>by
   simp only [aL]; exact eM.of_weak (bBQ h)
  unfold aIf at h
  cases τ with
  | int k =>
   simp only at h
   split at h
   ·split at h
    ·rename_i hk; cases h; rw [aFC hk]; simp only [aL]; exact eM.refl _
    ·cases h
   ·split at h
    ·rename_i hk; cases h; rw [aFC hk]; simp only [aL]; exact eM.refl _
    ·cases h
   ·exact hg h
   ·cases h
  | bool =>
   simp only at h
   split at h
   ·cases h; simp only [aL]; exact eM.refl _
   ·exact hg h
   ·cases h
  | str =>
   simp only at h
   split at h
   ·cases h; simp only [aL]; exact eM.refl _
   ·exact hg h
   ·cases h
  | tree =>
   simp only at h
   split at h
   ·exact hg h
   ·cases h; simp only [aL]; exact eM.of_weak jS.nil_tree
   ·simp only [aL]; exact aRk ih h
   ·rename_i key
    split at h
    ·rename_i e sz cs hl
     obtain ⟨j,hj⟩:=aF3 (ρ:=ρ) (ids:=ids) hl
     simp only [aL]
     simp only [dQ,if_true] at hj
     have:=eM.ref (s:=bL sto ρ ids) (off:=0) (by rw [fE]; exact hj)
     rw [List.drop_zero] at this
     exact this.trans (aRk ih h)
    ·cases h
   ·cases h
  | list f e =>
   simp only at h
   split at h
   ·exact hg h
   ·cases h; simp only [aL,Ty.av]; exact eM.of_weak (jS.nil_slc f)
   ·rename_i cs n f'
    split at h
    ·rename_i hf
     obtain ⟨q1,q2⟩:=aMP ih n cs v h
     simp only [aL,Ty.av]
     subst q1
     refine eM.trans (eM.slc (f:=f') q2) ?_
     cases f with
     | false=>exact eM.of_weak (jS.slc_full _ _ _)
     | true =>
      have:f'=true:=by simpa using hf
      rw [this]; exact eM.refl _
    ·cases h
   ·rename_i key j
    split at h
    ·cases h
    ·rename_i hff
     have hff':f=false:=by simpa using hff
     subst hff'
     split at h
     ·rename_i e0 j' z hl
      split at h
      ·rename_i hb
       simp only [Bool.and_eq_true] at hb
       have e1:=Nat.eq_of_beq_eq_true hb.1
       have e2:=Nat.eq_of_beq_eq_true hb.2
       subst e1; subst e2
       obtain ⟨f',hd,_⟩:=aP4 h
       obtain ⟨j0,hj0⟩:=aF3 (ρ:=ρ) (ids:=ids) hl
       simp only [dQ,hd,aCf,vH] at hj0
       simp only [aL,hd,vH,Ty.av]
       exact eM.row (by rw [aC5 (Ty.cells_len e)]; exact hj0) (fun h0=>by rw [List.length_eq_zero_iff.1 h0]; rfl)
      ·cases h
     ·cases h
     ·cases h
   ·cases h
  | pair a b =>
   simp only at h
   split at h
   ·obtain ⟨p,h1,h⟩:=aM h
    split at h
    ·rename_i hp
     cases h
     obtain ⟨c1,e1,w1⟩:=aEt ih (.pair a b) _ p.1 p.2 h1
     rw [hp,List.append_nil] at e1
     subst e1
     simp only [aL]
     exact eM.agg w1
    ·cases h
   ·cases h
  | one a =>
   simp only at h
   split at h
   ·obtain ⟨p,h1,h⟩:=aM h
    split at h
    ·rename_i hp
     cases h
     obtain ⟨c1,e1,w1⟩:=aEt ih a _ p.1 p.2 h1
     rw [hp,List.append_nil] at e1
     subst e1
     simp only [aL]
     exact eM.agg w1
    ·cases h
   ·cases h

/-! ### sealing -/
def frzO:OB→OB
 | .cells e n cs _=>.cells e n cs true
 | .list e j _=>.list e j (some j)
 | o=>o
def frzL (ks:List Nat):List (Nat×OB)→List (Nat×OB)
 | []=>[]
 | p :: l=>(if rQ p.1 ks then (p.1,frzO p.2) else p) :: frzL ks l

theorem iQ.frzO {t:mA} {s:aN} {ρ:bW} {ids:jI} {o:OB} {id j:Nat} (hj:s[j]?=some (id,dQ ρ ids o)):iQ t s t (s.set j (id,dQ ρ ids (frzO o))):=by
 have hjlt:j<s.length:=(List.getElem?_eq_some_iff.1 hj).1
 have hjv:s[j]=(id,dQ ρ ids o):=(List.getElem?_eq_some_iff.1 hj).2
 have same:s.set j (id,dQ ρ ids o)=s:=by rw [← hjv]; exact List.set_getElem_self hjlt
 cases o with
 | cells e n cs f =>
  have:=iQ.frz (t:=t) hj
  rw [fE] at this
  exact this
 | list e k fz =>
  cases hd:ρ k with
  | mk τ l =>
   cases τ with
   | list g a =>
    simp only [dQ,hd] at hj
    have:=iQ.frz (t:=t) hj
    rw [aC5 (Ty.cells_len a)] at this
    simp only [Go.Sx.frzO,dQ,hd,aCf,vH]
    exact this
   | _ =>
    simp only [Go.Sx.frzO,dQ,hd]
    simp only [dQ,hd] at same
    rw [same]; exact iQ.refl
 | map k=>simp only [Go.Sx.frzO]; rw [same]; exact iQ.refl
 | iter k p=>simp only [Go.Sx.frzO]; rw [same]; exact iQ.refl
 | glob b k=>simp only [Go.Sx.frzO]; rw [same]; exact iQ.refl

theorem iQ.frzL {t:mA} {ρ:bW} {ids:jI} (ks:List Nat):∀ (l:List (Nat×OB)) (pre:aN),iQ t (pre++bL l ρ ids) t (pre++bL (frzL ks l) ρ ids)
 | [],pre=>iQ.refl
 | p :: l,pre=>by
  simp only [Go.Sx.frzL,bL,List.map_cons]
  have go:=iQ.frzL (t:=t) (ρ:=ρ) (ids:=ids) ks l
  split
  ·have h1:=iQ.frzO (t:=t) (s:=pre++(ids p.1,dQ ρ ids p.2) :: bL l ρ ids) (ρ:=ρ) (ids:=ids) (o:=p.2) (id:=ids p.1) (j:=pre.length) (by simp)
   have e:(pre++(ids p.1,dQ ρ ids p.2) :: bL l ρ ids).set pre.length (ids p.1,dQ ρ ids (Go.Sx.frzO p.2))=pre++(ids p.1,dQ ρ ids (Go.Sx.frzO p.2)) :: bL l ρ ids:=by simp
   rw [e] at h1
   have h2:=go (pre++[(ids p.1,dQ ρ ids (Go.Sx.frzO p.2))])
   simp only [List.append_assoc,List.singleton_append] at h2
   exact iQ.trans h1 h2
  ·have h2:=go (pre++[(ids p.1,dQ ρ ids p.2)])
   simp only [List.append_assoc,List.singleton_append] at h2
   exact h2

end Go.Sx

/- The executor, part 3: patterns, and what they bind. -/
namespace Go.Sx
open Go Go.Am

abbrev Asg:=List (Nat×SV)
abbrev xP:=List (Nat×Nat)

def aWq (K:xP) (k key:Nat):Bool:=match lk K k with
 | some x=>Nat.beq x key
 | none=>false
def aKS (V:Asg) (i j:Nat):Bool:=match lk V i with
 | some (.var j')=>Nat.beq j' j
 | _=>false
theorem aKD {K:xP} {k key:Nat} (h:aWq K k key=true):lk K k=some key:=by
 unfold aWq at h
 split at h
 ·rename_i x hx; rw [hx,Nat.eq_of_beq_eq_true h]
 ·cases h
theorem aBX {V:Asg} {i j:Nat} (h:aKS V i j=true):lk V i=some (.var j):=by
 unfold aKS at h
 split at h
 ·rename_i x hx; rw [hx,Nat.eq_of_beq_eq_true h]
 ·cases h

mutual
def chk (V:Asg) (K:xP):SV→SV→Bool
 | .var i,a=>match lk V i with
  | some b=>SV.beq a b
  | none=>false
 | .any,_=>true
 | .len i,.len j=>aKS V i j
 | .ptr p,.ptr a | .agg p,.agg a | .tup p,.tup a=>aNX V K p a
 | .slc p n f,.slc a m g=>Nat.beq n m && (g || !f) && aNX V K p a
 | .ref k o,.ref key o'=>aWq K k key && Nat.beq o o'
 | .row k i,.row key j=>aWq K k key && aKS V i j
 | .mp k,.mp key | .it k,.it key=>aWq K k key
 | .fn f p q,.fn g a b=>Nat.beq f g && aNX V K p a && aNX V K q b
 | .int k n,.int j m=>keq k j && ieq n m
 | .bool a,.bool b=>aYn a b
 | .str a,.str b=>aIS a b
 | .nilp,.nilp | .nils,.nils | .nilf,.nilf | .nilm,.nilm | .und,.und=>true
 | _,_=>false
def aNX (V:Asg) (K:xP):List SV→List SV→Bool
 | [],[]=>true
 | p :: ps,a :: as=>chk V K p a && aNX V K ps as
 | _,_=>false
end

def Same (d' d:Dyn):Prop:=(∃ f f' e l,d'=⟨.list f e,l⟩∧d=⟨.list f' e,l⟩)∨d'=d
theorem Same.len {d' d:Dyn} (h:Same d' d):vH d'=vH d:=by
 rcases h with ⟨f,f',e,l,rfl,rfl⟩ | rfl <;> rfl

section
variable {s:aN} {V:Asg} {K:xP} {ρ ρ':bW} {ids ids':jI}
variable (hV:∀ i b,lk V i=some b→eM s (aL ρ ids b) (ρ' i).av) (hS:∀ i j,lk V i=some (.var j)→Same (ρ' i) (ρ j)) (hK:∀ k key,lk K k=some key→ids' k=ids key)
include hV hS hK
mutual
theorem bDj:∀ (p a:SV),chk V K p a=true→eM s (aL ρ ids a) (aL ρ' ids' p)
 | .var i,a,h=>by
  simp only [chk] at h
  split at h
  ·rename_i b hb
   rw [SV.beq_eq _ _ h]
   simp only [aL]
   exact hV i b hb
  ·cases h
 | .any,a,_=>by simp only [aL]; exact fun _ _ _ _ _ _=>trivial
 | .len i,a,h=>by
  cases a <;> simp only [chk] at h <;> first | (cases h; done) | skip
  rename_i j
  simp only [aL]
  rw [(hS i j (aBX h)).len]
  exact eM.refl _
 | .ptr p,a,h=>by
  cases a <;> simp only [chk] at h <;> first | (cases h; done) | skip
  simp only [aL]
  exact eM.ptr (aEo p _ h)
 | .agg p,a,h=>by
  cases a <;> simp only [chk] at h <;> first | (cases h; done) | skip
  simp only [aL]
  exact eM.agg (aEo p _ h)
 | .tup p,a,h=>by
  cases a <;> simp only [chk] at h <;> first | (cases h; done) | skip
  simp only [aL]
  exact eM.tup (aEo p _ h)
 | .slc p n f,a,h=>by
  cases a <;> simp only [chk] at h <;> first | (cases h; done) | skip
  rename_i cs m g
  simp only [Bool.and_eq_true] at h
  simp only [aL]
  rw [Nat.eq_of_beq_eq_true h.1.1]
  refine eM.trans (eM.slc (f:=g) (aEo p _ h.2)) ?_
  cases f with
  | false=>exact eM.of_weak (jS.slc_full _ _ _)
  | true =>
   have:g=true:=by simpa using h.1.2
   rw [this]; exact eM.refl _
 | .ref k o,a,h=>by
  cases a <;> simp only [chk] at h <;> first | (cases h; done) | skip
  simp only [Bool.and_eq_true] at h
  simp only [aL]
  rw [hK _ _ (aKD h.1),Nat.eq_of_beq_eq_true h.2]
  exact eM.refl _
 | .row k i,a,h=>by
  cases a <;> simp only [chk] at h <;> first | (cases h; done) | skip
  rename_i key j
  simp only [Bool.and_eq_true] at h
  simp only [aL]
  rw [hK _ _ (aKD h.1),(hS i j (aBX h.2)).len]
  exact eM.refl _
 | .mp k,a,h=>by
  cases a <;> simp only [chk] at h <;> first | (cases h; done) | skip
  simp only [aL]
  rw [hK _ _ (aKD h)]
  exact eM.refl _
 | .it k,a,h=>by
  cases a <;> simp only [chk] at h <;> first | (cases h; done) | skip
  simp only [aL]
  rw [hK _ _ (aKD h)]
  exact eM.refl _
 | .fn f p q,a,h=>by
  cases a <;> simp only [chk] at h <;> first | (cases h; done) | skip
  simp only [Bool.and_eq_true] at h
  simp only [aL]
  rw [Nat.eq_of_beq_eq_true h.1.1]
  intro w m i v hr hv
  obtain ⟨fs,cs,h1,h2,h3⟩:=hv
  exact ⟨fs,cs,h1,(aEo p _ h.1.2).vl hr h2,(aEo q _ h.2).vl hr h3⟩
 | .int k n,a,h=>by
  cases a <;> simp only [chk] at h <;> first | (cases h; done) | skip
  simp only [Bool.and_eq_true] at h
  simp only [aL]
  rw [aFC h.1,bDb h.2]
  exact eM.refl _
 | .bool b,a,h=>by
  cases a <;> simp only [chk] at h <;> first | (cases h; done) | skip
  simp only [aL]
  rw [aIL h]
  exact eM.refl _
 | .str b,a,h=>by
  cases a <;> simp only [chk] at h <;> first | (cases h; done) | skip
  simp only [aL]
  rw [aN8 h]
  exact eM.refl _
 | .nilp,a,h=>by cases a <;> simp only [chk] at h <;> first | (cases h; done) | (simp only [aL]; exact eM.refl _)
 | .nils,a,h=>by cases a <;> simp only [chk] at h <;> first | (cases h; done) | (simp only [aL]; exact eM.refl _)
 | .nilf,a,h=>by cases a <;> simp only [chk] at h <;> first | (cases h; done) | (simp only [aL]; exact eM.refl _)
 | .nilm,a,h=>by cases a <;> simp only [chk] at h <;> first | (cases h; done) | (simp only [aL]; exact eM.refl _)
 | .und,a,h=>by cases a <;> simp only [chk] at h <;> first | (cases h; done) | (simp only [aL]; exact eM.refl _)
 | .elt _ _ _,a,h=>by cases a <;> simp [chk] at h
theorem aEo:∀ (p a:List SV),aNX V K p a=true→VW s (bQ ρ ids a) (bQ ρ' ids' p)
 | [],a,h=>by
  have _:=hV
  have _:=hS
  have _:=hK
  cases a <;> simp only [aNX] at h <;> first | (cases h; done) | skip
  exact VW.nil
 | p :: ps,a,h=>by
  cases a <;> simp only [aNX] at h <;> first | (cases h; done) | skip
  simp only [Bool.and_eq_true] at h
  exact VW.cons (bDj p _ h.1) (aEo ps _ h.2)
end
end

def bEU (V:Asg) (K:xP):OB→OB→Bool
 | .cells e n p f,.cells e' n' a g=>Nat.beq e e' && Nat.beq n n' && aYn f g && aNX V K p a
 | .list e i none,.list e' j none=>Nat.beq e e' && aKS V i j
 | .list e i (some z),.list e' j (some y)=>Nat.beq e e' && aKS V i j && aKS V z y
 | .map i,.map j=>aKS V i j
 | .iter i p,.iter j q=>aKS V i j && aKS V p q
 | .glob b i,.glob b' j=>Nat.beq b b' && aKS V i j
 | _,_=>false

theorem aZR (f f':Bool) (τ:Ty) (l:List τ.D):mapOf ⟨.list f τ,l⟩=mapOf ⟨.list f' τ,l⟩:=by
 cases τ <;> first | rfl | skip
 rename_i a b
 cases a <;> rfl

theorem bFh {w:World} {m:Mu} {i:Io} {s:aN} {V:Asg} {K:xP} {ρ ρ':bW} {ids ids':jI} (hr:nX w m i s)
  (hV:∀ i b,lk V i=some b→eM s (aL ρ ids b) (ρ' i).av) (hS:∀ i j,lk V i=some (.var j)→Same (ρ' i) (ρ j)) (hK:∀ k key,lk K k=some key→ids' k=ids key)
  {p a:OB} {id:Nat} (h:bEU V K p a=true) (ho:OR w m i id (dQ ρ ids a)):OR w m i id (dQ ρ' ids' p):=by
 unfold bEU at h
 split at h
 ·rename_i e n p f e' n' a g
  simp only [Bool.and_eq_true] at h
  have h1:=Nat.eq_of_beq_eq_true h.1.1.1
  have h2:=Nat.eq_of_beq_eq_true h.1.1.2
  have h3:=aIL h.1.2
  subst h1; subst h2; subst h3
  have hw:=aEo hV hS hK p a h.2
  have hl:=hw.length
  rw [fE,fE] at hl
  simp only [dQ] at ho ⊢
  rcases ho with ⟨g1,g2,g3⟩ | ⟨b,cap,vs,g1,g2,g3,g4,g5,g6,g7,g8,g9,g10⟩
  ·rw [g2] at hw
   have hl':p.length=0:=by
    have:=hw.length; rw [fE] at this; simpa using this
   have e0:bQ ρ' ids' p=[]:=by rw [List.length_eq_zero_iff.1 hl']; simp [bQ]
   refine .inl ⟨g1,e0,?_⟩
   rw [hl']; split <;> rfl
  ·rw [fE] at g5 g6 g7 g8
   refine .inr ⟨b,cap,vs,g1,g2,g3,g4,by rw [fE,hl]; exact g5,by rw [fE,hl]; exact g6,by rw [fE,hl]; exact g7,by rw [fE,hl]; exact hw.vl hr g8,by rw [hl]; exact g9,by rw [hl]; exact g10⟩
 ·rename_i e x e' y
  simp only [Bool.and_eq_true] at h
  have h1:=Nat.eq_of_beq_eq_true h.1
  subst h1
  have hs:=hS _ _ (aBX h.2)
  have:dQ ρ' ids' (.list e x none)=dQ ρ ids (.list e y none):=by
   simp only [dQ]
   rcases hs with ⟨f,f',τ,l,e1,e2⟩ | e1
   ·rw [e1,e2]; rfl
   ·rw [e1]; rfl
  rw [this]; exact ho
 ·rename_i e x z e' y u
  simp only [Bool.and_eq_true] at h
  have h1:=Nat.eq_of_beq_eq_true h.1.1
  subst h1
  have hs:=hS _ _ (aBX h.1.2)
  have hz:=(hS _ _ (aBX h.2)).len
  have:dQ ρ' ids' (.list e x (some z))=dQ ρ ids (.list e y (some u)):=by
   simp only [dQ,aCf]
   rcases hs with ⟨f,f',τ,l,e1,e2⟩ | e1
   ·rw [e1,e2,hz]
   ·rw [e1,hz]
  rw [this]; exact ho
 ·rename_i x y
  have hs:=hS _ _ (aBX h)
  have:dQ ρ' ids' (.map x)=dQ ρ ids (.map y):=by
   simp only [dQ]
   rcases hs with ⟨f,f',τ,l,e1,e2⟩ | e1
   ·rw [e1,e2,aZR]
   ·rw [e1]
  rw [this]; exact ho
 ·rename_i x p y q
  simp only [Bool.and_eq_true] at h
  have hs:=hS _ _ (aBX h.1)
  have hq:=hS _ _ (aBX h.2)
  have:dQ ρ' ids' (.iter x p)=dQ ρ ids (.iter y q):=by
   simp only [dQ]
   rcases hs with ⟨f,f',τ,l,e1,e2⟩ | e1
   ·rw [e1,e2]
   ·rcases hq with ⟨f,f',τ,l,e2,e3⟩ | e2
    ·rw [e1,e2,e3]
     cases hd:ρ y with
     | mk τ0 l0=>cases τ0 <;> rfl
    ·rw [e1,e2]
  rw [this]; exact ho
 ·rename_i b x b' y
  simp only [Bool.and_eq_true] at h
  have h1:=Nat.eq_of_beq_eq_true h.1
  subst h1
  have hs:=hS _ _ (aBX h.2)
  have:dQ ρ' ids' (.glob b x)=dQ ρ ids (.glob b y):=by
   simp only [dQ]
   rcases hs with ⟨f,f',τ,l,e1,e2⟩ | e1
   ·rw [e1,e2]
   ·rw [e1]
  rw [this]; exact ho
 ·cases h

/-! ### the store's part that is spoken of -/
def take1 (key:Nat):List (Nat×OB)→Option (OB×List (Nat×OB))
 | []=>none
 | p :: l=>if Nat.beq p.1 key then some (p.2,l) else match take1 key l with
  | some (o,r)=>some (o,p :: r)
  | none=>none
theorem aUF {key:Nat}:∀ {l:List (Nat×OB)} {o:OB} {r:List (Nat×OB)},take1 key l=some (o,r)→l.Perm ((key,o) :: r)
 | [],_,_,h=>by simp [take1] at h
 | p :: l,o,r,h=>by
  unfold take1 at h
  split at h
  ·rename_i e
   cases h
   have:=Nat.eq_of_beq_eq_true e
   subst this
   exact List.Perm.refl _
  ·split at h
   ·rename_i o' r' ht
    cases h
    exact ((aUF ht).cons p).trans (List.Perm.swap _ _ _)
   ·cases h

def aN5 (V:Asg) (K:xP):List (Nat×OB)→List (Nat×OB)→Option (List (Nat×OB)×List (Nat×OB))
 | [],sto=>some ([],sto)
 | (k,po) :: l,sto=>match lk K k with
  | none=>none
  | some key=>match take1 key sto with
   | none=>none
   | some (o,sto')=>if bEU V K po o then match aN5 V K l sto' with
    | some (u,r)=>some ((key,o) :: u,r)
    | none=>none
    else none

def Fits (V:Asg) (K:xP):List (Nat×OB)→List (Nat×OB)→Prop
 | [],l=>l=[]
 | p :: ps,l=>∃ a as,l=a :: as∧lk K p.1=some a.1∧bEU V K p.2 a.2=true∧Fits V K ps as

theorem aQZ {V:Asg} {K:xP}:∀ {l sto u r:List (Nat×OB)},aN5 V K l sto=some (u,r)→sto.Perm (u++r)∧Fits V K l u
 | [],sto,u,r,h=>by simp [aN5] at h; obtain ⟨rfl,rfl⟩:=h; exact ⟨List.Perm.refl _,rfl⟩
 | (k,po) :: l,sto,u,r,h=>by
  simp only [aN5] at h
  split at h
  ·cases h
  ·rename_i key hk
   split at h
   ·cases h
   ·rename_i o sto' ht
    split at h
    ·rename_i hc
     split at h
     ·rename_i u' r' hs
      cases h
      obtain ⟨h1,h2⟩:=aQZ hs
      exact ⟨(aUF ht).trans (h1.cons _),_,_,rfl,hk,hc,h2⟩
     ·cases h
    ·cases h

end Go.Sx
namespace Go.Am
open Go
def aCe (R:Nat×Ob→Nat×Ob→Prop):aN→aN→Prop
 | [],l=>l=[]
 | p :: ps,l=>∃ q qs,l=q :: qs∧R p q∧aCe R ps qs
theorem aCe.ids {R:Nat×Ob→Nat×Ob→Prop} (hR:∀ p q,R p q→q.1=p.1):∀ {s s':aN},aCe R s s'→s'.map (·.1)=s.map (·.1)
 | [],_,h=>by rw [h]
 | p :: s,_,⟨q,qs,h1,h2,h3⟩=>by subst h1; simp [hR _ _ h2,aCe.ids hR h3]
theorem aCe.mem {R:Nat×Ob→Nat×Ob→Prop}:∀ {s s':aN},aCe R s s'→∀ q∈s',∃ p∈s,R p q
 | [],_,h,q,hq=>by rw [h] at hq; cases hq
 | p :: s,_,⟨q',qs,h1,h2,h3⟩,q,hq=>by
  subst h1
  rcases List.mem_cons.1 hq with rfl | hq
  ·exact ⟨p,List.mem_cons_self,h2⟩
  ·obtain ⟨p',hp,hr⟩:=aCe.mem h3 q hq
   exact ⟨p',List.mem_cons_of_mem _ hp,hr⟩
theorem aCe.append {R:Nat×Ob→Nat×Ob→Prop}:∀ {s s' t t':aN},aCe R s s'→aCe R t t'→aCe R (s++t) (s'++t')
 | [],_,_,_,h,k=>by rw [h]; exact k
 | p :: s,_,_,_,⟨q,qs,h1,h2,h3⟩,k=>by subst h1; exact ⟨q,_,rfl,h2,aCe.append h3 k⟩
theorem aCe.refl {R:Nat×Ob→Nat×Ob→Prop} (hR:∀ p,R p p):∀ s,aCe R s s
 | []=>rfl
 | p :: s=>⟨p,s,rfl,hR p,aCe.refl hR s⟩
def aZC (w:World) (m:Mu) (i:Io) (p q:Nat×Ob):Prop:=q.1=p.1∧(OR w m i p.1 p.2→OR w m i q.1 q.2)
theorem nX.recast {w m i} {s s':aN} (h:nX w m i s) (hp:aCe (aZC w m i) s s'):nX w m i s':=by
 refine ⟨h.mu,fun q hq=>?_,?_,h.fin,h.tab⟩
 ·obtain ⟨p,hp1,hp2⟩:=hp.mem q hq
  exact hp2.2 (h.obj p hp1)
 ·have hids:=hp.ids (fun p q h=>h.1)
  have key:∀ (l:aN),l.Pairwise (Go.Am.apart i)↔(l.map (·.1)).Pairwise (fun p q=>p≠q∧∀ b,blk i p=some b→blk i q≠some b):=by
   intro l; rw [List.pairwise_map]; rfl
  rw [key,hids,← key]
  exact h.apart
theorem Step.same {w m i} {s s':aN} (h:∀ p∈s',∃ q∈s,q.1=p.1):Step w m i s w m i s' :=
 ⟨rfl,rfl,rfl,Nat.le_refl _,Mu.le_refl _,Io.le_refl _,fun _ _ _=>rfl,fun _ _ _ _=>rfl,fun p hp=>.inl (h p hp),fun _b ⟨p,hp,e⟩=>.inl (let ⟨q,hq,e2⟩:=h p hp; ⟨q,hq,e2 ▸ e⟩)⟩
end Go.Am
namespace Go.Sx
open Go Go.Am

/-! ### the values that are bound -/
@[reducible] def Vals:List Ty→Type
 | []=>Unit
 | [τ]=>τ.D
 | τ :: σ :: Γ=>τ.D×Vals (σ :: Γ)
def dyns:(Γ:List Ty)→Vals Γ→List Dyn
 | [],_=>[]
 | [τ],x=>[⟨τ,x⟩]
 | τ :: σ :: Γ,x=>⟨τ,x.1⟩ :: dyns (σ :: Γ) x.2
def hQ (Γ:List Ty) (x:Vals Γ):bW:=fun i=>(dyns Γ x).getD i .dflt
theorem aYP:∀ (Γ:List Ty) (x:Vals Γ),(dyns Γ x).length=Γ.length
 | [],_=>rfl
 | [_],_=>rfl
 | τ :: σ :: Γ,x=>by simp [dyns,aYP (σ :: Γ)]

def vals (sto:List (Nat×OB)) (ρ:bW) (V:Asg):(i:Nat)→(Γ:List Ty)→Option (Vals Γ)
 | _,[]=>some ()
 | i,[τ]=>(lk V i).bind fun b=>aIf 40 sto ρ τ b
 | i,τ :: σ :: Γ=>(lk V i).bind fun b=>(aIf 40 sto ρ τ b).bind fun x=>(vals sto ρ V (i+1) (σ :: Γ)).bind fun xs=>some (x,xs)

theorem bBz {sto:List (Nat×OB)} {ρ:bW} {V:Asg}:∀ {i:Nat} {Γ:List Ty} {x:Vals Γ},vals sto ρ V i Γ=some x→∀ (k:Nat) (d:Dyn),(dyns Γ x)[k]?=some d →
  ∃ b,lk V (i+k)=some b∧aIf 40 sto ρ d.1 b=some d.2
 | i,[],x,h,k,d,hd=>by simp [dyns] at hd
 | i,[τ],x,h,k,d,hd=>by
  simp only [vals] at h
  obtain ⟨b,h1,h2⟩:=aM h
  cases k with
  | zero=>simp [dyns] at hd; subst hd; exact ⟨b,h1,h2⟩
  | succ k=>simp [dyns] at hd
 | i,τ :: σ :: Γ,x,h,k,d,hd=>by
  simp only [vals] at h
  obtain ⟨b,h1,h⟩:=aM h
  obtain ⟨y,h2,h⟩:=aM h
  obtain ⟨ys,h3,h⟩:=aM h
  cases h
  cases k with
  | zero=>simp [dyns] at hd; subst hd; exact ⟨b,h1,h2⟩
  | succ k =>
   simp only [dyns,List.getElem?_cons_succ] at hd
   have:=bBz h3 k d hd
   rw [show i+(k+1)=i+1+k from by omega]
   exact this

def aS2 (n:Nat):Asg→Bool
 | []=>true
 | p :: l=>Nat.blt p.1 n && aS2 n l
theorem aYb {n:Nat}:∀ {V:Asg} {i:Nat} {b:SV},aS2 n V=true→lk V i=some b→i<n
 | [],_,_,_,h=>by simp [lk] at h
 | (k,u) :: V,i,b,h,hb=>by
  simp only [aS2,Bool.and_eq_true] at h
  unfold lk at hb
  by_cases e:i=k
  ·subst e; exact mP h.1
  ·rw [fN e] at hb; exact aYb (V:=V) h.2 hb

theorem bDe {sto:List (Nat×OB)} {ρ:bW} {τ:Ty} {j m:Nat} {v:τ.D} (h:aIf m sto ρ τ (.var j)=some v):aEf τ (ρ j)=some v:=by
 cases m with
 | zero=>simp [aIf] at h
 | succ m =>
  unfold aIf at h
  cases τ <;> first | exact h | cases h

theorem bCh {τ:Ty} {d:Dyn} {v:τ.D} (h:aEf τ d=some v):Same ⟨τ,v⟩ d:=by
 cases τ with
 | list f e=>obtain ⟨f',rfl,_⟩:=aP4 h; exact .inl ⟨f,f',e,v,rfl,rfl⟩
 | int k =>
  obtain ⟨τ,u⟩:=d
  cases τ <;> simp only [aEf] at h <;> first | (cases h; done) | skip
  split at h
  ·rename_i hk; cases h; rw [aFC hk]; exact .inr rfl
  ·cases h
 | bool=>obtain ⟨τ,u⟩:=d; cases τ <;> simp only [aEf] at h <;> first | (cases h; done) | (cases h; exact .inr rfl)
 | str=>obtain ⟨τ,u⟩:=d; cases τ <;> simp only [aEf] at h <;> first | (cases h; done) | (cases h; exact .inr rfl)
 | tree=>obtain ⟨τ,u⟩:=d; cases τ <;> simp only [aEf] at h <;> first | (cases h; done) | (cases h; exact .inr rfl)
 | pair a b=>obtain ⟨τ,u⟩:=d; cases τ <;> simp only [aEf] at h <;> cases h
 | one a=>obtain ⟨τ,u⟩:=d; cases τ <;> simp only [aEf] at h <;> cases h

theorem bFT {sto:List (Nat×OB)} {ρ:bW} {ids:jI} {V:Asg} {Γ:List Ty} {x:Vals Γ} (h:vals sto ρ V 0 Γ=some x) (ha:aS2 Γ.length V=true) :
  (∀ i b,lk V i=some b→eM (bL sto ρ ids) (aL ρ ids b) (hQ Γ x i).av)∧(∀ i j,lk V i=some (.var j)→Same (hQ Γ x i) (ρ j)):=by
 have key:∀ i b,lk V i=some b→aIf 40 sto ρ (hQ Γ x i).1 b=some (hQ Γ x i).2:=by
  intro i b hb
  have hlt:=aYb ha hb
  rw [← aYP Γ x] at hlt
  have hd:(dyns Γ x)[i]?=some (hQ Γ x i):=by
   unfold hQ
   rw [List.getD_eq_getElem?_getD,List.getElem?_eq_getElem hlt]; rfl
  obtain ⟨b',h1,h2⟩:=bBz h i _ hd
  rw [Nat.zero_add] at h1
  rw [hb] at h1
  cases h1
  exact h2
 exact ⟨fun i b hb=>aEr _ _ _ _ (key i b hb),fun i j hj=>bCh (bDe (key i _ hj))⟩

def aIQ (K:xP) (ids:jI):jI:=fun k=>match lk K k with
 | some key=>ids key
 | none=>0
theorem aPK {K:xP} {ids:jI} {k key:Nat} (h:lk K k=some key):aIQ K ids k=ids key:=by unfold aIQ; rw [h]

theorem aTe {w:World} {m:Mu} {i:Io} {sto:List (Nat×OB)} {ρ:bW} {ids:jI} {V:Asg} {K:xP} {Γ:List Ty} {x:Vals Γ} {psto used rest:List (Nat×OB)}
  (hr:nX w m i (bL sto ρ ids)) (hx:vals sto ρ V 0 Γ=some x) (ha:aS2 Γ.length V=true) (hs:aN5 V K psto sto=some (used,rest)) :
  (∀ p a,chk V K p a=true→∀ v,VR m i (aL ρ ids a) v→VR m i (aL (hQ Γ x) (aIQ K ids) p) v)∧(∀ p a,aNX V K p a=true→∀ v,VL m i (bQ ρ ids a) v→VL m i (bQ (hQ Γ x) (aIQ K ids) p) v) ∧
  nX w m i (bL psto (hQ Γ x) (aIQ K ids)++bL rest ρ ids)∧(∀ p∈bL psto (hQ Γ x) (aIQ K ids)++bL rest ρ ids,∃ q∈bL sto ρ ids,q.1=p.1) ∧
  (∀ q∈bL sto ρ ids,∃ p∈bL psto (hQ Γ x) (aIQ K ids)++bL rest ρ ids,p.1=q.1):=by
 obtain ⟨hV,hS⟩:=bFT (ids:=ids) hx ha
 have hK:∀ k key,lk K k=some key→aIQ K ids k=ids key:=fun k key h=>aPK h
 obtain ⟨h1,h2⟩:=aQZ hs
 have hperm:(bL sto ρ ids).Perm (bL used ρ ids++bL rest ρ ids):=by
  unfold bL; rw [← List.map_append]; exact h1.map _
 have hpairs:∀ (l u:List (Nat×OB)),Fits V K l u→aCe (aZC w m i) (bL u ρ ids) (bL l (hQ Γ x) (aIQ K ids)):=by
  intro l
  induction l with
  | nil=>intro u hu; simp only [Fits] at hu; subst hu; exact rfl
  | cons p l ih =>
   intro u hu
   obtain ⟨a,as,rfl,k1,k2,k3⟩:=hu
   refine ⟨_,_,rfl,⟨hK _ _ k1,fun ho=>?_⟩,ih as k3⟩
   show OR w m i (aIQ K ids p.1) _
   rw [show (aIQ K ids p.1)=ids a.1 from hK _ _ k1]
   exact bFh hr hV hS hK k2 ho
 have hp:=(hpairs psto used h2).append (aCe.refl (R:=aZC w m i) (fun p=>⟨rfl,fun h=>h⟩) (bL rest ρ ids))
 have hids:=hp.ids (fun p q h=>h.1)
 refine ⟨fun p a hc v hv=>bDj hV hS hK p a hc w m i v hr hv,fun p a hc v hv=>(aEo hV hS hK p a hc).vl hr hv,(hr.perm hperm).recast hp,fun p hp'=>?_,fun q hq=>?_⟩
 ·obtain ⟨q,hq,hR⟩:=hp.mem p hp'
  exact ⟨q,hperm.mem_iff.2 hq,hR.1.symm⟩
 ·have hq':=hperm.mem_iff.1 hq
  have:q.1∈(bL psto (hQ Γ x) (aIQ K ids)++bL rest ρ ids).map (·.1):=by rw [hids]; exact List.mem_map_of_mem hq'
  obtain ⟨p,hp1,hp2⟩:=List.mem_map.1 this
  exact ⟨p,hp1,hp2⟩

/-! ### how a pattern is held against what is there -/
mutual
def col:SV→SV→Asg×xP→Asg×xP
 | .var i,a,c=>match lk c.1 i with
  | some _=>c
  | none=>((i,a) :: c.1,c.2)
 | .len i,.len j,c=>match lk c.1 i with
  | some _=>c
  | none=>((i,.var j) :: c.1,c.2)
 | .ptr p,.ptr a,c | .agg p,.agg a,c | .tup p,.tup a,c | .slc p _ _,.slc a _ _,c=>cols p a c
 | .ref k _,.ref key _,c | .mp k,.mp key,c | .it k,.it key,c=>match lk c.2 k with
  | some _=>c
  | none=>(c.1,(k,key) :: c.2)
 | .row k i,.row key j,c=>match lk c.2 k,lk c.1 i with
  | some _,some _=>c
  | some _,none=>((i,.var j) :: c.1,c.2)
  | none,some _=>(c.1,(k,key) :: c.2)
  | none,none=>((i,.var j) :: c.1,(k,key) :: c.2)
 | .fn _ p q,.fn _ a b,c=>cols q b (cols p a c)
 | _,_,c=>c
def cols:List SV→List SV→Asg×xP→Asg×xP
 | p :: ps,a :: as,c=>cols ps as (col p a c)
 | _,_,c=>c
end

def bB8 (i j:Nat) (c:Asg×xP):Asg×xP:=match lk c.1 i with
 | some _=>c
 | none=>((i,.var j) :: c.1,c.2)
def bJH:OB→OB→Asg×xP→Asg×xP
 | .cells _ _ p _,.cells _ _ a _,c=>cols p a c
 | .list _ i (some z),.list _ j (some y),c=>bB8 z y (bB8 i j c)
 | .list _ i _,.list _ j _,c | .map i,.map j,c=>bB8 i j c
 | .iter i p,.iter j q,c=>bB8 p q (bB8 i j c)
 | .glob _ i,.glob _ j,c=>bB8 i j c
 | _,_,c=>c
def colS (sto:List (Nat×OB)):List (Nat×OB)→Asg×xP→Asg×xP
 | [],c=>c
 | p :: l,c=>match lk c.2 p.1 with
  | none=>colS sto l c
  | some key=>match lk sto key with
   | none=>colS sto l c
   | some o=>colS sto l (bJH p.2 o c)

def aGp:Nat→List (Nat×OB)→SV→List Nat
 | 0,_,_=>[]
 | n+1,sto,x=>match x with
  | .ref key _=>key :: (match lk sto key with
   | some (.cells _ _ cs _)=>cs.flatMap (aGp n sto)
   | _=>[])
  | .row key _=>[key]
  | .ptr cs | .agg cs | .tup cs | .slc cs _ _=>cs.flatMap (aGp n sto)
  | _=>[]

structure Mt where
 V:Asg
 K:xP
 sto:List (Nat×OB)
 rest:List (Nat×OB)

def mt1 (ps as:List SV) (psto:List (Nat×OB)) (n:Nat) (V:Asg) (K:xP) (sto1:List (Nat×OB)):Option Mt :=
 if aNX V K ps as && aS2 n V then match aN5 V K psto sto1 with
  | some (_,rest)=>some ⟨V,K,sto1,rest⟩
  | none=>none
 else none
def mt (ps as:List SV) (psto:List (Nat×OB)) (n:Nat) (K0:xP) (sto:List (Nat×OB)):Option Mt :=
 match colS sto psto (cols ps as ([],K0)) with
 | (V,K)=>mt1 ps as psto n V K (frzL (V.flatMap fun p=>aGp 20 sto p.2) sto)

theorem bCN {ps as:List SV} {psto:List (Nat×OB)} {n:Nat} {K0:xP} {sto:List (Nat×OB)} {r:Mt} (h:mt ps as psto n K0 sto=some r) :
  aNX r.V r.K ps as=true∧aS2 n r.V=true∧(∃ used,aN5 r.V r.K psto r.sto=some (used,r.rest))∧∃ ks,r.sto=frzL ks sto:=by
 unfold mt at h
 split at h
 rename_i V K hc
 unfold mt1 at h
 split at h
 ·rename_i hb
  simp only [Bool.and_eq_true] at hb
  split at h
  ·rename_i used rest hs
   cases h
   exact ⟨hb.1,hb.2,⟨_,hs⟩,_,rfl⟩
  ·cases h
 ·cases h

end Go.Sx

/- The executor, part 4: operations that leave the store alone. -/
namespace Go.Sx
open Go Go.Am

section
variable {P:Program} {T:TT} {R:Type}

def Ext (st:St) (ρ:bW) (st':St) (ρ':bW):Prop :=
 st'.live=st.live∧st'.sto=st.sto∧st'.nk=st.nk∧∀ ids,eA st ρ' ids=eA st ρ ids∧bL st.sto ρ' ids=bL st.sto ρ ids
theorem Ext.refl (st:St) (ρ:bW):Ext st ρ st ρ:=⟨rfl,rfl,rfl,fun _=>⟨rfl,rfl⟩⟩

def vB (P:Program) (o:Oper) (st:St) (ρ:bW) (ids:jI) (rd:List Nat) (kk:SV→St→bW→Option R) (r:R):Prop :=
 ∃ sv st' ρ',kk sv st' ρ'=some r∧Ext st ρ st' ρ'∧∀ s,(∀ key o',rQ key rd=true→lk st.sto key=some o'→(ids key,dQ ρ ids o')∈s) →
  sP P o (eA st ρ ids) s (fun x y=>x=aL ρ' ids sv∧y=s)

def aZH (st:St) (ρ:bW) (n:Nat) (ds:List Dyn) (kk:St→bW→Option R):Option R :=
 match st.ok with
 | true=>kk { live:=st.live,sto:=st.sto,nv:=st.nv+n,nk:=st.nk } (vI ρ st.nv ds)
 | false=>none

theorem aOz {st:St} {ρ:bW} {n:Nat} {ds:List Dyn} {kk:St→bW→Option R} {r:R} (h:aZH st ρ n ds kk=some r) :
  kk { live:=st.live,sto:=st.sto,nv:=st.nv+n,nk:=st.nk } (vI ρ st.nv ds)=some r∧Ext st ρ { live:=st.live,sto:=st.sto,nv:=st.nv+n,nk:=st.nk } (vI ρ st.nv ds):=by
 unfold aZH at h
 split at h
 ·rename_i hok
  simp only [St.ok,Bool.and_eq_true] at hok
  exact ⟨h,rfl,rfl,rfl,fun ids=>⟨rB (jC ρ st.nv ds) (fun _ _=>rfl) hok.1,pG (jC ρ st.nv ds) (fun _ _=>rfl) hok.2⟩⟩
 ·cases h

def yZ:Nat→Nat→List SV
 | _,0=>[]
 | v,n+1=>.var v :: yZ (v+1) n
theorem bD4 (ids:jI) {ρ:bW}:∀ (ds:List Dyn) (v:Nat),(∀ k d,ds[k]?=some d→ρ (v+k)=d)→bQ ρ ids (yZ v ds.length)=ds.map Dyn.av
 | [],_,_=>by simp [yZ,bQ]
 | d :: ds,v,h=>by
  simp only [List.length_cons,yZ,bQ,aL,List.map_cons,List.cons.injEq]
  refine ⟨by have:=h 0 d rfl; rw [Nat.add_zero] at this; rw [this],bD4 ids ds (v+1) fun k d hd=>?_⟩
  rw [show v+1+k=v+(k+1) from by omega]
  exact h (k+1) d hd
theorem aUj (ids:jI) (ρ:bW) (nv:Nat) (ds:List Dyn):bQ (vI ρ nv ds) ids (yZ nv ds.length)=ds.map Dyn.av :=
 bD4 ids ds nv fun k d hd=>aB3 ρ nv ds k d hd
theorem bCq (ids:jI) (ρ:bW) (nv:Nat) (d:Dyn):aL (vI ρ nv [d]) ids (.var nv)=d.av:=by
 have:=aB3 ρ nv [d] 0 d rfl
 rw [Nat.add_zero] at this
 simp only [aL,this]

theorem Ty.flat_length (τ:Ty) (x:τ.D):(τ.flat x).length=τ.n:=by
 have h:=Ty.cells_len τ x
 rwa [Ty.flat_cells,List.length_map] at h
theorem aLz (ids:jI) (ρ:bW) (nv:Nat) (τ:Ty) (x:τ.D):bQ (vI ρ nv (τ.flat x)) ids (yZ nv τ.n)=(τ.flat x).map Dyn.av:=by
 have h:=aUj ids ρ nv (τ.flat x)
 rwa [Ty.flat_length] at h

def uJ (st:St) (ρ:bW) (d:Dyn) (kk:SV→St→bW→Option R):Option R:=aZH st ρ 1 [d] fun st' ρ'=>kk (.var st.nv) st' ρ'

theorem aFj {st:St} {ρ:bW} {d:Dyn} {kk:SV→St→bW→Option R} {r:R} (h:uJ st ρ d kk=some r) :
  ∃ st' ρ',kk (.var st.nv) st' ρ'=some r∧Ext st ρ st' ρ'∧∀ ids,aL ρ' ids (.var st.nv)=d.av:=by
 obtain ⟨h1,h2⟩:=aOz h
 exact ⟨_,_,h1,h2,fun ids=>bCq ids ρ st.nv d⟩

def bGK (st:St) (ρ:bW) (τ:Ty) (x:τ.D) (kk:SV→St→bW→Option R):Option R:=match τ with
 | .pair a b=>aZH st ρ (Ty.pair a b).n (Ty.flat (.pair a b) x) fun st' ρ'=>kk (.agg (yZ st.nv (Ty.pair a b).n)) st' ρ'
 | .one a=>aZH st ρ (Ty.one a).n (Ty.flat (.one a) x) fun st' ρ'=>kk (.agg (yZ st.nv (Ty.one a).n)) st' ρ'
 | τ=>uJ st ρ ⟨τ,x⟩ kk
theorem bBx {st:St} {ρ:bW} {τ:Ty} {x:τ.D} {kk:SV→St→bW→Option R} {r:R} (h:bGK st ρ τ x kk=some r) :
  ∃ sv st' ρ',kk sv st' ρ'=some r∧Ext st ρ st' ρ'∧∀ ids,aL ρ' ids sv=τ.av x:=by
 cases τ with
 | pair a b =>
  obtain ⟨h1,h2⟩:=aOz h
  refine ⟨_,_,_,h1,h2,fun ids=>?_⟩
  simp only [aL,aLz]
  rw [← Ty.flat_cells]; rfl
 | one a =>
  obtain ⟨h1,h2⟩:=aOz h
  refine ⟨_,_,_,h1,h2,fun ids=>?_⟩
  simp only [aL,aLz]
  rw [← Ty.flat_cells]; rfl
 | int k=>obtain ⟨st',ρ',h1,h2,h3⟩:=aFj h; exact ⟨_,st',ρ',h1,h2,h3⟩
 | bool=>obtain ⟨st',ρ',h1,h2,h3⟩:=aFj h; exact ⟨_,st',ρ',h1,h2,h3⟩
 | str=>obtain ⟨st',ρ',h1,h2,h3⟩:=aFj h; exact ⟨_,st',ρ',h1,h2,h3⟩
 | tree=>obtain ⟨st',ρ',h1,h2,h3⟩:=aFj h; exact ⟨_,st',ρ',h1,h2,h3⟩
 | list f e=>obtain ⟨st',ρ',h1,h2,h3⟩:=aFj h; exact ⟨_,st',ρ',h1,h2,h3⟩
def bFq (st:St) (ρ:bW) (τ:Ty) (x:τ.D) (kk:SV→St→bW→Option R):Option R:=aZH st ρ τ.n (τ.flat x) fun st' ρ'=>kk (.ptr (yZ st.nv τ.n)) st' ρ'
theorem aXf {st:St} {ρ:bW} {τ:Ty} {x:τ.D} {kk:SV→St→bW→Option R} {r:R} (h:bFq st ρ τ x kk=some r) :
  ∃ sv st' ρ',kk sv st' ρ'=some r∧Ext st ρ st' ρ'∧∀ ids,aL ρ' ids sv=.ptr (τ.cells x):=by
 obtain ⟨h1,h2⟩:=aOz h
 refine ⟨_,_,_,h1,h2,fun ids=>?_⟩
 simp only [aL,aLz]
 rw [← Ty.flat_cells]

theorem vB.val {o:Oper} {st:St} {ρ:bW} {ids:jI} {kk:SV→St→bW→Option R} {r:R} {sv:SV} {rd:List Nat} (h:kk sv st ρ=some r)
  (ha:∀ s,sP P o (eA st ρ ids) s (fun x y=>x=aL ρ ids sv∧y=s)):vB P o st ρ ids rd kk r:=⟨sv,st,ρ,h,Ext.refl _ _,fun s _=>ha s⟩
theorem vB.new1 {o:Oper} {st:St} {ρ:bW} {ids:jI} {kk:SV→St→bW→Option R} {r:R} {d:Dyn} {rd:List Nat} (h:uJ st ρ d kk=some r)
  (ha:∀ s,sP P o (eA st ρ ids) s (fun x y=>x=d.av∧y=s)):vB P o st ρ ids rd kk r:=by
 obtain ⟨st',ρ',h1,h2,h3⟩:=aFj h
 exact ⟨_,st',ρ',h1,h2,fun s _=>by rw [h3]; exact ha s⟩

/-! ### operands -/
def cst:Value→Option SV
 | .int k n=>some (.int k n)
 | .bool b=>some (.bool b)
 | .string a=>some (.str a.data.toList)
 | .pointer none=>some .nilp
 | .slice none 0 0=>some .nils
 | .nilFunc=>some .nilf
 | .map none=>some .nilm
 | _=>none
theorem bDC {ρ:bW} {ids:jI} {v:Value} {x:SV} (h:cst v=some x):aL ρ ids x=.lit v:=by
 unfold cst at h
 split at h <;> cases h <;> simp [aL]

def hP (live:List (Nat×SV)):Operand→Option SV
 | .tmp k=>lk live k
 | .const v=>cst v
 | .func f=>some (.fn f [] [])
 | .global _=>none
theorem bB {st:St} {ρ:bW} {ids:jI} {x:Operand} {sv:SV} (h:hP st.live x=some sv):ev (eA st ρ ids) x=aL ρ ids sv:=by
 cases x with
 | tmp k=>simp only [hP] at h; simp [ev,eA,h]
 | const v=>simp only [hP] at h; rw [bDC h]; rfl
 | func f=>cases h; simp [ev,aL,bQ]
 | global g=>cases h
def aWO (live:List (Nat×SV)):List Operand→Option (List SV)
 | []=>some []
 | x :: xs=>match hP live x with
  | none=>none
  | some a=>match aWO live xs with
   | none=>none
   | some as=>some (a :: as)
theorem aLV {st:St} {ρ:bW} {ids:jI}:∀ {l:List Operand} {as:List SV},aWO st.live l=some as→l.map (ev (eA st ρ ids))=bQ ρ ids as
 | [],as,h=>by cases h; simp [bQ]
 | x :: xs,as,h=>by
  simp only [aWO] at h
  split at h
  ·cases h
  ·rename_i a ha
   split at h
   ·cases h
   ·rename_i as' hs
    cases h
    simp only [List.map_cons,bQ]
    rw [bB ha,aLV hs]

def aH7 (ρ:bW):SV→Option (IntKind×Int)
 | .int k n=>some (k,n)
 | .len j=>some (.i64,((vH (ρ j):Nat):Int))
 | .var j=>match ρ j with
  | ⟨.int k,n⟩=>some (k,n)
  | _=>none
 | _=>none
theorem kL {ρ:bW} {ids:jI} {x:SV} {k:IntKind} {n:Int} (h:aH7 ρ x=some (k,n)):aL ρ ids x=.lit (.int k n):=by
 unfold aH7 at h
 split at h
 ·cases h; simp [aL]
 ·cases h; simp [aL]
 ·rename_i j
  split at h
  ·rename_i k' n' hd
   cases h
   simp only [aL,hd]; rfl
  ·cases h
 ·cases h
theorem bE7 {ρ:bW} {x:SV} {k:IntKind} {n:Int} (h:aH7 ρ x=some (k,n)):intOf ρ x=some n:=by
 unfold aH7 at h
 split at h
 ·cases h; rfl
 ·cases h; rfl
 ·rename_i j
  split at h
  ·rename_i k' n' hd
   cases h
   simp only [intOf,hd]
  ·cases h
 ·cases h
def strOf (ρ:bW):SV→Option (List UInt8)
 | .str l=>some l
 | .var j=>match ρ j with
  | ⟨.str,l⟩=>some l
  | _=>none
 | _=>none
theorem aBn {ρ:bW} {ids:jI} {x:SV} {l:List UInt8} (h:strOf ρ x=some l):aL ρ ids x=.s l:=by
 unfold strOf at h
 split at h
 ·cases h; simp [aL]
 ·rename_i j
  split at h
  ·rename_i l' hd
   cases h
   simp only [aL,hd]; rfl
  ·cases h
 ·cases h
def aHo (ρ:bW):SV→Option Bool
 | .bool b=>some b
 | .var j=>match ρ j with
  | ⟨.bool,b⟩=>some b
  | _=>none
 | _=>none
theorem qB {ρ:bW} {ids:jI} {x:SV} {l:Bool} (h:aHo ρ x=some l):aL ρ ids x=.b l:=by
 unfold aHo at h
 split at h
 ·cases h; simp [aL]
 ·rename_i j
  split at h
  ·rename_i l' hd
   cases h
   simp only [aL,hd]; rfl
  ·cases h
 ·cases h
def listOf (ρ:bW):SV→Option (Sigma fun e:Ty=>List e.D)
 | .var j=>match ρ j with
  | ⟨.list _ e,l⟩=>some ⟨e,l⟩
  | _=>none
 | _=>none
theorem aQ4 {ρ:bW} {ids:jI} {x:SV} {e:Ty} {l:List e.D} (h:listOf ρ x=some ⟨e,l⟩):∃ f,aL ρ ids x=.slc (l.flatMap e.cells) l.length f:=by
 unfold listOf at h
 split at h
 ·rename_i j
  split at h
  ·rename_i f e' l' hd
   cases h
   exact ⟨f,by simp only [aL,hd]; rfl⟩
  ·cases h
 ·cases h

/-! ### tests -/
def ifB (ρ:bW) (x:SV) (t f:bW→Option R):Option R:=match x with
 | .bool b=>match b with
  | true=>t ρ
  | false=>f ρ
 | .var j=>match ρ j with
  | ⟨.bool,b⟩=>iteS b (t (upd ρ j ⟨.bool,true⟩)) (f (upd ρ j ⟨.bool,false⟩))
  | _=>none
 | _=>none
theorem aXr {ρ:bW} {x:SV} {t f:bW→Option R} {r:R} (h:ifB ρ x t f=some r):(aHo ρ x=some true∧t ρ=some r)∨(aHo ρ x=some false∧f ρ=some r):=by
 unfold ifB at h
 split at h
 ·rename_i b
  cases b
  ·exact .inr ⟨rfl,h⟩
  ·exact .inl ⟨rfl,h⟩
 ·rename_i j
  split at h
  ·rename_i b hd
   have hb:aHo ρ (.var j)=some b:=by simp only [aHo,hd]
   rw [aWH] at h
   split at h
   ·rename_i hbt
    subst hbt
    rw [upd_same hd] at h
    exact .inl ⟨hb,h⟩
   ·rename_i hbf
    have:b=false:=by simpa using hbf
    subst this
    rw [upd_same hd] at h
    exact .inr ⟨hb,h⟩
  ·cases h
 ·cases h

def ifT (ρ:bW) (j:Nat) (n:bW→Option R) (c:bW→Int→Int→List UInt8→List UInt8→List Tr→Option R):Option R:=match ρ j with
 | ⟨.tree,t⟩=>match t with
  | .nil=>n (upd ρ j ⟨.tree,.nil⟩)
  | .node k m nm mk ks=>c (upd ρ j ⟨.tree,.node k m nm mk ks⟩) k m nm mk ks
 | _=>none
theorem bAh {ρ:bW} {j:Nat} {n:bW→Option R} {c} {r:R} (h:ifT ρ j n c=some r) :
  (ρ j=⟨.tree,.nil⟩∧n ρ=some r)∨∃ k m nm mk ks,ρ j=⟨.tree,.node k m nm mk ks⟩∧c ρ k m nm mk ks=some r:=by
 unfold ifT at h
 split at h
 ·rename_i t hd
  cases t with
  | nil=>simp only at h; rw [upd_same hd] at h; exact .inl ⟨hd,h⟩
  | node k m nm mk ks=>simp only at h; rw [upd_same hd] at h; exact .inr ⟨k,m,nm,mk,ks,hd,h⟩
 ·cases h

/-! ### arithmetic -/
def bHO (op:BinOp) (k:IntKind) (a b:Int):Option Dyn:=match op with
 | .add=>some ⟨.int k,k.wrap (a+b)⟩
 | .sub=>some ⟨.int k,k.wrap (a - b)⟩
 | .mul=>some ⟨.int k,k.wrap (a * b)⟩
 | .eql=>some ⟨.bool,decide (a=b)⟩
 | .neq=>some ⟨.bool,!decide (a=b)⟩
 | .lss=>some ⟨.bool,decide (a<b)⟩
 | .leq=>some ⟨.bool,decide (a≤b)⟩
 | .gtr=>some ⟨.bool,decide (b<a)⟩
 | .geq=>some ⟨.bool,decide (b≤a)⟩
 | _=>none
theorem bEV {op:BinOp} {k:IntKind} {a b:Int} {d:Dyn} (h:bHO op k a b=some d):aYc op k a b=some d.av:=by
 cases op <;> simp only [bHO] at h <;> first | (cases h; rfl) | cases h

def bAp (op:BinOp) (k:IntKind) (a b:Int):Option Int:=match op with
 | .quo=>if b=0 then none else some (k.wrap (a.tdiv b))
 | .rem=>if b=0 then none else some (a.tmod b)
 | _=>none
theorem bFW {op:BinOp} {k:IntKind} {a b n:Int} (h:bAp op k a b=some n):aYc op k a b=some (.lit (.int k n)):=by
 cases op <;> simp only [bAp] at h <;> first | (cases h; done) | skip
 ·split at h
  ·cases h
  ·rename_i hb; cases h; simp [aYc,hb]
 ·split at h
  ·cases h
  ·rename_i hb; cases h; simp [aYc,hb]

def bIx:BinOp→Bool
 | .quo | .rem=>true
 | _=>false
def bJl:BinOp→Bool
 | .and | .or | .xor | .andNot=>true
 | _=>false
def bJT:BinOp→Bool
 | .shl | .shr=>true
 | _=>false
def isK:SV→Bool
 | .int _ _=>true
 | _=>false

def bEK (T:TT) (op:BinOp) (ty:Nat) (x y:SV) (st:St) (ρ:bW) (kk:SV→St→bW→Option R):Option R :=
 match aH7 ρ x,aH7 ρ y with
 | some (k,a),some (k',b)=>match bJT op with
  | true=>(shI op k a b).bind fun n=>uJ st ρ ⟨.int k,n⟩ kk
  | false =>
  match keq k k' with
  | true=>(match bJl op with
   | true=>(pW op k a b).bind fun n=>uJ st ρ ⟨.int k,n⟩ kk
   | false=>(match bIx op with
    | true=>(bAp op k a b).bind fun n=>uJ st ρ ⟨.int k,n⟩ kk
    | false=>(match bHO op k a b with
     | none=>none
     | some d=>(match isK x && isK y with
      | true=>(match d with
       | ⟨.int k,n⟩=>kk (.int k n) st ρ
       | ⟨.bool,v⟩=>kk (.bool v) st ρ
       | _=>none)
      | false=>uJ st ρ d kk))))
  | false=>none
 | _,_=>match strOf ρ x,strOf ρ y with
  | some l,some r=>match op with
   | .eql=>uJ st ρ ⟨.bool,decide (l=r)⟩ kk
   | .neq=>uJ st ρ ⟨.bool,!decide (l=r)⟩ kk
   | .lss=>uJ st ρ ⟨.bool,Op.bytesLess l r⟩ kk
   | .add=>(catS l r).bind fun v=>uJ st ρ ⟨.str,v⟩ kk
   | _=>none
  | _,_=>match lk T.kd ty with
   | some .bool=>match aHo ρ x,aHo ρ y with
    | some a,some b=>match op with
     | .eql=>uJ st ρ ⟨.bool,a == b⟩ kk
     | .neq=>uJ st ρ ⟨.bool,!(a == b)⟩ kk
     | _=>none
    | _,_=>none
   | some (.pointer _)=>match y with
    | .nilp=>match op with
     | .eql=>match x with
      | .nilp=>kk (.bool true) st ρ
      | .ptr _ | .ref _ _=>kk (.bool false) st ρ
      | .var j=>ifT ρ j (fun ρ=>kk (.bool true) st ρ) (fun ρ _ _ _ _ _=>kk (.bool false) st ρ)
      | _=>none
     | .neq=>match x with
      | .nilp=>kk (.bool false) st ρ
      | .ptr _ | .ref _ _=>kk (.bool true) st ρ
      | .var j=>ifT ρ j (fun ρ=>kk (.bool false) st ρ) (fun ρ _ _ _ _ _=>kk (.bool true) st ρ)
      | _=>none
     | _=>none
    | _=>none
   | some (.slice _)=>match x,y,op with
    | .nils,.nils,.eql=>kk (.bool true) st ρ
    | .nils,.nils,.neq=>kk (.bool false) st ρ
    | _,_,_=>none
   | _=>none

theorem bCY (hT:eG P T) {op:BinOp} {ty yt:Nat} {xo yo:Operand} {x y:SV} {st:St} {ρ:bW} {ids:jI} {rd:List Nat} {kk:SV→St→bW→Option R} {r:R} {o:Oper} (ho:o.op=.binOp op ty xo yo yt)
  (hx:hP st.live xo=some x) (hy:hP st.live yo=some y) (h:bEK T op ty x y st ρ kk=some r):vB P o st ρ ids rd kk r:=by
 have ex:=bB (ρ:=ρ) (ids:=ids) hx
 have ey:=bB (ρ:=ρ) (ids:=ids) hy
 have pp:∀ {av:AV},aMt op (lk T.kd ty) (aL ρ ids x) (aL ρ ids y)=some av→∀ s,sP P o (eA st ρ ids) s (fun x y=>x=av∧y=s):=fun hp s =>
  aLK hT (by rw [ho]; simp only [pop]; rw [ex,ey]; exact hp)
 unfold bEK at h
 split at h
 ·rename_i k a k' b h1 h2
  have e1:=kL (ids:=ids) h1
  have e2:=kL (ids:=ids) h2
  split at h
  ·obtain ⟨n,h3,h4⟩:=aM h
   exact vB.new1 h4 fun s=>bBH h3 ho (ex.trans e1) (ey.trans e2)
  split at h
  ·rename_i hk
   have:=aFC hk
   subst this
   split at h
   ·obtain ⟨n,h3,h4⟩:=aM h
    exact vB.new1 h4 fun s=>bEA h3 ho (ex.trans e1) (ey.trans e2)
   have pi:∀ {av:AV},aYc op k a b=some av→∀ s,sP P o (eA st ρ ids) s (fun x y=>x=av∧y=s):=fun hp=>pp (by rw [e1,e2]; simp [aMt,hp])
   split at h
   ·obtain ⟨n,h3,h4⟩:=aM h
    exact vB.new1 h4 (pi (bFW h3))
   ·split at h
    ·cases h
    ·rename_i d hd
     have hq:=pi (bEV hd)
     split at h
     ·split at h
      ·exact vB.val h (by simp only [aL]; exact hq)
      ·exact vB.val h (by simp only [aL]; exact hq)
      ·cases h
     ·exact vB.new1 h hq
  ·cases h
 ·split at h
  ·rename_i l r' h1 h2
   have e1:=aBn (ids:=ids) h1
   have e2:=aBn (ids:=ids) h2
   split at h
   ·exact vB.new1 h (pp (by rw [e1,e2]; simp [aMt]; rfl))
   ·exact vB.new1 h (pp (by rw [e1,e2]; simp [aMt]; rfl))
   ·exact vB.new1 h (pp (by rw [e1,e2]; simp [aMt]; rfl))
   ·obtain ⟨v,h3,h4⟩:=aM h
    exact vB.new1 h4 fun s=>bBu h3 ho (ex.trans e1) (ey.trans e2)
   ·cases h
  ·split at h
   ·rename_i hkd
    split at h
    ·rename_i a b h1 h2
     have e1:=qB (ids:=ids) h1
     have e2:=qB (ids:=ids) h2
     split at h
     ·exact vB.new1 h (pp (by rw [e1,e2,hkd]; rfl))
     ·exact vB.new1 h (pp (by rw [e1,e2,hkd]; rfl))
     ·cases h
    ·cases h
   ·rename_i e hkd
    split at h
    ·split at h
     ·split at h
      ·exact vB.val h (pp (by rw [hkd]; simp [aL,aMt]))
      ·exact vB.val h (pp (by rw [hkd]; simp [aL,aMt]))
      ·exact vB.val h (pp (by rw [hkd]; simp [aL,aMt]))
      ·rename_i j
       rcases bAh h with ⟨hd,h⟩ | ⟨k,m,nm,mk,ks,hd,h⟩
       ·exact vB.val h (pp (by rw [hkd]; simp only [aL,hd]; rfl))
       ·exact vB.val h (pp (by rw [hkd]; simp only [aL,hd]; rfl))
      ·cases h
     ·split at h
      ·exact vB.val h (pp (by rw [hkd]; simp [aL,aMt]))
      ·exact vB.val h (pp (by rw [hkd]; simp [aL,aMt]))
      ·exact vB.val h (pp (by rw [hkd]; simp [aL,aMt]))
      ·rename_i j
       rcases bAh h with ⟨hd,h⟩ | ⟨k,m,nm,mk,ks,hd,h⟩
       ·exact vB.val h (pp (by rw [hkd]; simp only [aL,hd]; rfl))
       ·exact vB.val h (pp (by rw [hkd]; simp only [aL,hd]; rfl))
      ·cases h
     ·cases h
    ·cases h
   ·rename_i e hkd
    split at h
    ·exact vB.val h (pp (by rw [hkd]; simp [aL,aMt]))
    ·exact vB.val h (pp (by rw [hkd]; simp [aL,aMt]))
    ·cases h
   ·cases h
end
end Go.Sx

/- The executor, part 5: more operations that leave the store alone. -/
namespace Go.Sx
open Go Go.Am

def bAJ (ρ:bW):SV→Bool
 | .agg _ | .tup _ | .any | .und=>false
 | .var j=>match ρ j with
  | ⟨.pair _ _,_⟩ | ⟨.one _,_⟩=>false
  | _=>true
 | .elt _ _ i=>(intOf ρ i).isSome
 | _=>true
theorem aPU {ρ:bW} {ids:jI} {x:SV} (h:bAJ ρ x=true):(aL ρ ids x).scalar=true:=by
 cases x <;> simp only [bAJ] at h <;> first | (cases h; done) | (simp [aL,AV.scalar]; done) | skip
 ·rename_i j
  simp only [aL]
  cases hd:ρ j with
  | mk τ v=>rw [hd] at h; cases τ <;> first | (cases h; done) | rfl
 ·rename_i k n i
  simp only [aL]
  cases hi:intOf ρ i with
  | none=>rw [hi] at h; cases h
  | some n=>rfl

def aVV (ρ:bW) (place:Nat→Option (Nat×Nat)) (cells:List SV):List (Nat×SV)→Option (List SV)
 | []=>some cells
 | (j,v) :: rest =>
  match place j with
  | none=>none
  | some (off,size) =>
   match v with
   | .agg cs=>if Nat.beq cs.length size && Nat.ble (off+cs.length) cells.length then aVV ρ place (cells.take off++cs++cells.drop (off+cs.length)) rest else none
   | v=>if bAJ ρ v && Nat.beq 1 size && Nat.ble (off+1) cells.length then aVV ρ place (cells.set off v) rest else none

theorem aPp {ρ:bW} {ids:jI} {place:Nat→Option (Nat×Nat)}:∀ {ps:List (Nat×SV)} {cells cs:List SV},aVV ρ place cells ps=some cs →
  aGl place (bQ ρ ids cells) (ps.map fun p=>(p.1,aL ρ ids p.2))=some (bQ ρ ids cs)
 | [],cells,cs,h=>by cases h; rfl
 | (j,v) :: rest,cells,cs,h=>by
  simp only [aVV] at h
  split at h
  ·cases h
  ·rename_i off size hp
   split at h
   ·rename_i ds
    split at h
    ·rename_i hb
     have ih:=aPp (ids:=ids) h
     simp only [List.map_cons,aGl,hp,aL]
     rw [fE,fE,if_pos hb]
     rw [cH,cH] at ih ⊢
     rw [List.map_append,List.map_append,List.map_take,List.map_drop] at ih
     rw [cH ρ ids cs]
     exact ih
    ·cases h
   ·rename_i hne
    split at h
    ·rename_i hb
     have ih:=aPp (ids:=ids) h
     simp only [Bool.and_eq_true] at hb
     have hsc:=aPU (ids:=ids) hb.1.1
     simp only [List.map_cons,aGl,hp]
     rw [cH,List.map_set,← cH] at ih
     split
     ·rename_i x hx; rw [hx] at hsc; cases hsc
     ·rw [hsc,hb.1.2,fE,hb.2]
      exact ih
    ·cases h

def aZj:List Value→Option (List SV)
 | []=>some []
 | v :: vs=>match cst v with
  | none=>none
  | some x=>match aZj vs with
   | none=>none
   | some xs=>some (x :: xs)
theorem aSF {ρ:bW} {ids:jI}:∀ {vs:List Value} {xs:List SV},aZj vs=some xs→bQ ρ ids xs=vs.map AV.ofConst
 | [],xs,h=>by cases h; simp [bQ]
 | v :: vs,xs,h=>by
  simp only [aZj] at h
  split at h
  ·cases h
  ·rename_i x hx
   split at h
   ·cases h
   ·rename_i xs' hs
    cases h
    simp only [bQ,List.map_cons]
    rw [bDC hx,aSF hs]

def aPq (live:List (Nat×SV)):List (Nat×Operand)→Option (List (Nat×SV))
 | []=>some []
 | p :: ps=>match hP live p.2 with
  | none=>none
  | some x=>match aPq live ps with
   | none=>none
   | some xs=>some ((p.1,x) :: xs)
theorem aNK {st:St} {ρ:bW} {ids:jI}:∀ {l:List (Nat×Operand)} {xs:List (Nat×SV)},aPq st.live l=some xs→l.map (fun p=>(p.1,ev (eA st ρ ids) p.2))=xs.map fun p=>(p.1,aL ρ ids p.2)
 | [],xs,h=>by cases h; rfl
 | p :: ps,xs,h=>by
  simp only [aPq] at h
  split at h
  ·cases h
  ·rename_i x hx
   split at h
   ·cases h
   ·rename_i xs' hs
    cases h
    simp only [List.map_cons]
    rw [bB hx,aNK hs]

theorem aZ1 (ρ:bW) (ids:jI) (l:List SV) (k:Nat):aL ρ ids (l.getD k .any)=(bQ ρ ids l).getD k .any:=by
 rw [cH]
 simp only [List.getD_eq_getElem?_getD,List.getElem?_map]
 cases l[k]? with
 | none=>simp [aL]
 | some x=>rfl
theorem aIb (ρ:bW) (ids:jI) {l:List SV} {k:Nat} {x:SV} (h:l[k]?=some x):(bQ ρ ids l)[k]?=some (aL ρ ids x):=by rw [cH]; simp [h]

def bBJ (live:List (Nat×SV)) (ρ:bW) (d:Int):Option Operand→Option Int
 | none=>some d
 | some x=>match hP live x with
  | none=>none
  | some sv=>match aH7 ρ sv with
   | some (k,n)=>if keq k .i64 then some n else none
   | none=>none
theorem aSJ {st:St} {ρ:bW} {ids:jI} {d n:Int} {lo:Option Operand} (h:bBJ st.live ρ d lo=some n):(lo.map (ev (eA st ρ ids))).getD (.i d)=.i n:=by
 cases lo with
 | none=>cases h; rfl
 | some x =>
  simp only [bBJ] at h
  split at h
  ·cases h
  ·rename_i sv hs
   split at h
   ·rename_i k n' hk
    split at h
    ·rename_i hke
     cases h
     have:=aFC hke
     subst this
     simp only [Option.map_some,Option.getD_some]
     rw [bB hs,kL hk]
    ·cases h
   ·cases h

def isP:Ty→Bool
 | .pair _ _ | .one _=>true
 | _=>false
theorem Ty.av_cells (τ:Ty) (x:τ.D):τ.av x=if isP τ then .agg (τ.cells x) else (τ.cells x).headD .any:=by cases τ <;> rfl

structure XT where
 T:TT
 ty:List (Nat×Ty)
 objs:List Nat
 tab:List (Nat×Dyn):=[]
def bAm:Dyn→List AV
 | ⟨.list _ τ,l⟩=>l.flatMap τ.cells
 | _=>[]
structure XOk (P:Program) (X:XT):Prop where
 tt:eG P X.T
 tab:X.tab.map (fun p=>some (bAm p.2))=X.tab.map (fun p=>(lkN tabs p.1).map fun vs=>vs.map AV.lit)
theorem XOk.tab' {P:Program} {X:XT} (h:XOk P X) {g:Nat} {d:Dyn} (e:lk X.tab g=some d):∃ vs,lkN tabs g=some vs∧bAm d=vs.map AV.lit:=by
 have:=pL h.tab _ (aE6 e)
 simp only at this
 cases hl:lkN tabs g with
 | none=>rw [hl] at this; cases this
 | some vs=>rw [hl] at this; exact ⟨vs,rfl,Option.some.inj this⟩
def bBD:(τ:Ty)→Value→Option τ.D
 | .int k,.int k' n=>if keq k k' then some n else none
 | .bool,.bool b=>some b
 | .str,.string a=>some a.data.toList
 | .tree,.pointer none=>some .nil
 | .list false _,.slice none 0 0=>some []
 | _,_=>none
theorem aXN {τ:Ty} {v:Value} {z:τ.D} (h:bBD τ v=some z):jS (.lit v) (τ.av z):=by
 unfold bBD at h
 split at h
 ·split at h
  ·rename_i hk; cases h; rw [aFC hk]; exact jS.refl _
  ·cases h
 ·cases h; exact jS.refl _
 ·cases h; exact jS.refl _
 ·cases h; exact jS.nil_tree
 ·cases h; exact jS.nil_slc false
 ·cases h
def bFv (ρ:bW) (j:Nat):Option (Sigma fun τ:Ty=>List (List UInt8×τ.D)):=match ρ j with
 | ⟨.list _ (.pair .str τ),l⟩=>some ⟨τ,l⟩
 | _=>none
theorem bA5 {ρ:bW} {j:Nat} {τ:Ty} {l:List (List UInt8×τ.D)} (h:bFv ρ j=some ⟨τ,l⟩):∃ f,ρ j=⟨.list f (.pair .str τ),l⟩:=by
 unfold bFv at h
 split at h
 ·rename_i f τ' l' hd; cases h; exact ⟨f,hd⟩
 ·cases h

section
variable {P:Program} {T:TT} {R:Type}

def bJf (X:XT) (ty g:Nat) (i:Operand) (st:St) (ρ:bW) (kk:SV→St→bW→Option R):Option R:=match lk X.tab g,lk X.T.arr ty,hP st.live i with
 | some ⟨.list _ τ,l⟩,some (len,e),some i=>match aH7 ρ i,lk X.T.sz e with
  | some (_,n),some sz=>(match (Nat.beq sz τ.n && Nat.ble l.length len:Bool) with | true=>(aU l n).bind fun v=>bFq st ρ τ v kk | false=>none)
  | _,_=>none
 | _,_,_=>none
def aIa (l:List Int):List UInt8:=l.map fun n=>UInt8.ofNat n.toNat
theorem aDz:∀ (l:List Int) (r:ByteArray),l.foldl (fun r n=>r.push (UInt8.ofNat n.toNat)) r=⟨r.data++(aIa l).toArray⟩
 | [],r=>by simp [aIa]
 | n :: l,r=>by
  rw [List.foldl_cons,aDz l]
  simp [ByteArray.push,aIa]
theorem bBn {m:Mu} {i:Io} {k:IntKind}:∀ (l:List Int) (vs:List Value),VL m i (l.flatMap (Ty.cells (.int k))) vs→vs=l.map (Value.int k)
 | [],vs,h=>by
  have h:vs=[]:=h
  rw [h]; rfl
 | x :: l,vs,h=>by
  have h:VL m i (.lit (.int k x) :: l.flatMap (Ty.cells (.int k))) vs:=by
   rw [List.flatMap_cons] at h; exact h
  obtain ⟨v,vs',rfl,h2,h3⟩:=h
  have h2:v=.int k x:=h2
  rw [h2,bBn l vs' h3]; rfl
theorem aWo {k:IntKind}:∀ l:List Int,(l.flatMap (Ty.cells (.int k))).length=l.length
 | []=>rfl
 | x :: l=>by rw [List.flatMap_cons,List.length_append,aWo l,List.length_cons,Nat.add_comm]; rfl
theorem aWX {P:Program} {T:TT} (h:eG P T) {o:Oper} {t:mA} {s:aN} {src dst e id e' fz:Nat} {x:Operand} {l:List Int} (ho:o.op=.convert src dst x) (hs:lk T.kd src=some (.slice e)) (he:lk T.kd e=some (.int .u8)) (hd:lk T.kd dst=some .string)
  (hm:(id,Ob.row e' 1 (l.flatMap (Ty.cells (.int .u8))) fz)∈s) (hx:ev t x=.row id l.length):sP P o t s (fun v z=>v=.lit (.string ⟨(aIa l).toArray⟩)∧z=s):=by
 refine fM fun a w m i hr hop=>?_
 rw [ho] at hop
 have v1:=yX (x:=x) hop (by simp [Op.operands])
 rw [hx] at v1
 have q1:=aAK h hs
 obtain ⟨d1,q2,q3⟩:=h.under he (by simp)
 cases d1 <;> simp only [aFg] at q3 <;> first | (cases q3; done) | skip
 cases q3
 obtain ⟨d2,q4,q5⟩:=h.under hd (by simp)
 cases d2 <;> simp only [aFg] at q5 <;> first | (cases q5; done) | skip
 refine ⟨.string ⟨(aIa l).toArray⟩,?_,rfl⟩
 rcases v1 with ⟨_,hn,e1⟩ | ⟨b,cap,e1,e2,e3⟩
 ·have hl:l=[]:=List.length_eq_zero_iff.1 hn
  subst hl
  have:=run_convert_bytes_string (P:=P) w src dst e none 0 0 q1 q2 q4
  simp [execOp,ho,e1,this,Conv.bytesToString,aIa]
  rfl
 ·rcases hr.obj _ hm with ⟨g1,_,_⟩ | ⟨b',cap',vs,g1,g2,_,_,g3,_,_,g5,_,_⟩
  ·rw [g1] at e1; cases e1
  ·rw [g1] at e1
   cases e1
   have hcl:=aWo (k:=.u8) l
   have hv:=bBn l _ g5
   rw [hcl] at hv g3
   have hload:(loadCells ⟨b,0,none⟩ l.length).run P w=.ok (l.map (Value.int .u8)).toArray w:=by
    have:=run_loadCells_list (P:=P) w ⟨b,0,none⟩ (l.map (Value.int .u8)) (fun j v hj=>by
     rw [add_lit,Nat.zero_add]
     have hc:w.cell? ⟨b,j,none⟩=vs[j]?:=by simp [World.cell?,g2]
     rw [hc,← hj,← hv]
     have hjl:j<l.length:=by
      have:=(List.getElem?_eq_some_iff.1 hj).1
      simpa using this
     rw [List.getElem?_take_of_lt hjl]
     simp)
    simpa using this
   have hb:=run_bytesToString (P:=P) w ⟨b,0,none⟩ l.length cap l hload
   rw [aDz] at hb
   have hz:(⟨ByteArray.empty.data++(aIa l).toArray⟩:ByteArray)=⟨(aIa l).toArray⟩:=by
    have:ByteArray.empty.data=#[]:=rfl
    rw [this]; simp
   rw [hz] at hb
   have:=run_convert_bytes_string (P:=P) w src dst e (some ⟨b,0,none⟩) l.length cap q1 q2 q4
   rw [hb] at this
   simp [execOp,ho,e3,this]
theorem aXA {P:Program} {T:TT} (h:eG P T) {o:Oper} {t:mA} {s:aN} {src dst e:Nat} {x:Operand} {c:Int} {fu:Bool} (ho:o.op=.convert src dst x) (hs:lk T.kd src=some (.slice e)) (he:lk T.kd e=some (.int .u8)) (hd:lk T.kd dst=some .string)
  (hx:ev t x=.slc [.lit (.int .u8 c)] 1 fu):sP P o t s (fun v z=>v=.lit (.string ⟨(aIa [c]).toArray⟩)∧z=s):=by
 refine fM fun a w m i hr hop=>?_
 rw [ho] at hop
 have v1:=yX (x:=x) hop (by simp [Op.operands])
 rw [hx] at v1
 have q1:=aAK h hs
 obtain ⟨d1,q2,q3⟩:=h.under he (by simp)
 cases d1 <;> simp only [aFg] at q3 <;> first | (cases q3; done) | skip
 cases q3
 obtain ⟨d2,q4,q5⟩:=h.under hd (by simp)
 cases d2 <;> simp only [aFg] at q5 <;> first | (cases q5; done) | skip
 refine ⟨.string ⟨(aIa [c]).toArray⟩,?_,rfl⟩
 rcases v1 with ⟨hn,_,p,e1⟩ | ⟨b,o',cap,e1,e2,e2',e3,e4⟩
 ·cases hn
 ·have hload:(loadCells ⟨b,o',none⟩ 1).run P w=.ok ([c].map (Value.int .u8)).toArray w:=by
   have:=run_loadCells_list (P:=P) w ⟨b,o',none⟩ ([c].map (Value.int .u8)) (fun j v hj=>by
    rw [add_lit]
    obtain ⟨u,g1,g2⟩:=e4.get 0 _ rfl
    have g2:u=.int .u8 c:=g2
    cases j with
    | zero =>
     have e:Value.int .u8 c=v:=by simpa using hj
     rw [(hr.mu _ _ _ g1).1,g2,e]
    | succ j=>simp at hj)
   simpa using this
  have hb:=run_bytesToString (P:=P) w ⟨b,o',none⟩ 1 cap [c] hload
  rw [aDz] at hb
  have hz:(⟨ByteArray.empty.data++(aIa [c]).toArray⟩:ByteArray)=⟨(aIa [c]).toArray⟩:=by
   have:ByteArray.empty.data=#[]:=rfl
   rw [this]; simp
  rw [hz] at hb
  have:=run_convert_bytes_string (P:=P) w src dst e (some ⟨b,o',none⟩) 1 cap q1 q2 q4
  rw [hb] at this
  simp [execOp,ho,e1,this]
def bGy (st:St) (ρ:bW) (sv:SV) (kk:SV→St→bW→Option R):Option R:=match sv with
 | .slc [x] 1 true=>match aH7 ρ x with
  | some (.u8,c)=>uJ st ρ ⟨.str,aIa [c]⟩ kk
  | _=>none
 | .row key j=>match lk st.sto key with
  | some (.list _ j' _)=>match ρ j' with
   | ⟨.list _ (.int .u8),l⟩=>if vH (ρ j)=l.length then uJ st ρ ⟨.str,aIa l⟩ kk else none
   | _=>none
  | _=>none
 | _=>none
def encR (l:List Int):List UInt8:=(runesBytes l).data.toList
theorem aYL {k:IntKind}:∀ (l:List Int) (j:Nat) (n:Int),l[j]?=some n→(l.flatMap (Ty.cells (.int k)))[j]?=some (.lit (.int k n))
 | [],j,n,h=>by simp at h
 | x :: l,0,n,h=>by
  have e:x=n:=by simpa using h
  subst e; rfl
 | x :: l,j+1,n,h=>aYL l j n (by simpa using h)
theorem bBV {P:Program} {T:TT} (h:eG P T) {o:Oper} {t:mA} {s:aN} {src dst e:Nat} {x:Operand} {l:List Int} {fu:Bool} (ho:o.op=.convert src dst x) (hs:lk T.kd src=some (.slice e)) (he:lk T.kd e=some (.int .i32)) (hd:lk T.kd dst=some .string)
  (hx:ev t x=.slc (l.flatMap (Ty.cells (.int .i32))) l.length fu):sP P o t s (fun v z=>v=.lit (.string ⟨(encR l).toArray⟩)∧z=s):=by
 refine fM fun a w m i hr hop=>?_
 rw [ho] at hop
 have v1:=yX (x:=x) hop (by simp [Op.operands])
 rw [hx] at v1
 have q1:=aAK h hs
 obtain ⟨d1,q2,q3⟩:=h.under he (by simp)
 cases d1 <;> simp only [aFg] at q3 <;> first | (cases q3; done) | skip
 cases q3
 obtain ⟨d2,q4,q5⟩:=h.under hd (by simp)
 cases d2 <;> simp only [aFg] at q5 <;> first | (cases q5; done) | skip
 have hres:(⟨(encR l).toArray⟩:ByteArray)=runesBytes l:=by unfold encR; simp
 refine ⟨.string (runesBytes l),?_,by rw [hres]; rfl⟩
 rcases v1 with ⟨hn,_,p,e1⟩ | ⟨b,o',cap,e1,e2,e2',e3,e4⟩
 ·have hl:l=[]:=List.length_eq_zero_iff.1 hn
  subst hl
  cases p with
  | none=>simp [execOp,ho,e1,run_convert_runes_nil w src dst e 0 0 q1 q2 q4]; rfl
  | some p=>simp [execOp,ho,e1,run_convert_runes w src dst e p 0 0 [] (Nat.le_refl _) q1 q2 q4 (fun j hj=>by simp at hj)]
 ·have:=run_convert_runes w src dst e ⟨b,o',none⟩ l.length cap l (Nat.le_refl _) q1 q2 q4 (fun j hj=>by
   rw [add_lit]
   obtain ⟨v,g1,g2⟩:=e4.get j _ (aYL l j l[j] (List.getElem?_eq_getElem hj))
   have g2:v=.int .i32 l[j]:=g2
   rw [(hr.mu _ _ _ g1).1,g2]
   simp [List.getD,List.getElem?_eq_getElem hj])
  rw [List.take_length] at this
  simp [execOp,ho,e1,this]

def strsOf:List SV→Option (List (List UInt8))
 | []=>some []
 | .str l :: r=>(strsOf r).map (l :: ·)
 | _=>none
theorem aWr {ρ:bW} {ids:jI}:∀ {cs:List SV} {l:List (List UInt8)},strsOf cs=some l→bQ ρ ids cs=l.flatMap (Ty.cells .str)
 | [],l,h=>by cases h; rfl
 | c :: r,l,h=>by
  cases c <;> simp only [strsOf] at h <;> first | (cases h; done) | skip
  cases hr:strsOf r with
  | none=>rw [hr] at h; cases h
  | some l' =>
   rw [hr] at h
   cases h
   simp only [bQ,aL,List.flatMap_cons]
   rw [aWr hr]
   rfl

def bGE (T:TT) (ty:Nat) (x i:Operand) (st:St) (ρ:bW) (kk:SV→St→bW→Option R):Option R:=match lk T.kd ty,hP st.live x,hP st.live i with
  | some (.slice e),some xs,some i=>match lk T.sz e,aH7 ρ i with
   | some sz,some (_,n)=>match xs with
    | .slc cs m _=>match i with
     | .int _ _=>match n with
      | .ofNat a=>(match (Nat.blt a m:Bool) with | true=>kk (.ptr (cs.drop (a * sz))) st ρ | false=>none)
      | _=>none
     | _=>match strsOf cs with
      | some l=>(match (Nat.beq sz 1 && Nat.beq l.length m:Bool) with | true=>(aU l n).bind fun v=>bFq st ρ .str v kk | false=>none)
      | none=>none
    | .row key j=>(match (Nat.blt 0 sz:Bool) with | true=>(if 0≤n∧n<((vH (ρ j):Nat):Int) then kk (.elt key sz i) st ρ else none) | false=>none)
    | xs=>match listOf ρ xs with
     | some ⟨τ,l⟩=>(match (Nat.beq sz τ.n:Bool) with | true=>(aU l n).bind fun v=>bFq st ρ τ v kk | false=>none)
     | none=>none
   | _,_=>none
  | _,_,_=>none

def bCu (X:XT) (o:Op) (st:St) (ρ:bW) (kk:SV→St→bW→Option R):Option R :=
 match o with
 | .move x | .assign x=>match hP st.live x with
  | none=>none
  | some sv=>kk sv st ρ
 | .pick c a b=>match hP st.live c,hP st.live a,hP st.live b with
  | some c,some a,some b=>ifB ρ c (fun ρ=>kk a st ρ) (fun ρ=>kk b st ρ)
  | _,_,_=>none
 | .nilCheck x=>match hP st.live x with
  | some (.ptr cs)=>kk (.ptr cs) st ρ
  | some (.ref k o)=>kk (.ref k o) st ρ
  | some (.fn f a b)=>kk (.fn f a b) st ρ
  | some (.var j)=>ifT ρ j (fun _=>none) fun ρ k m nm mk ks =>
   aZH st ρ 5 [⟨.int .i64,k⟩,⟨.int .i64,m⟩,⟨.str,nm⟩,⟨.str,mk⟩,⟨.list false .tree,ks⟩] fun st' ρ'=>kk (.ptr (yZ st.nv 5)) st' ρ'
  | _=>none
 | .fieldAddr ty x f=>match lk X.T.fld ty with
  | none=>none
  | some fs=>match fs[f]? with
   | some (_,off,_+1)=>match hP st.live x with
    | some (.ptr cs)=>kk (.ptr (cs.drop off)) st ρ
    | some (.ref k o)=>kk (.ref k (o+off)) st ρ
    | _=>none
   | _=>none
 | .field ty x f=>match lk X.T.fld ty with
  | none=>none
  | some fs=>match fs[f]? with
   | some (fty,off,_)=>match hP st.live x with
    | some (.agg cs)=>match X.T.lay fty with
     | some (true,n)=>kk (.agg ((cs.drop off).take n)) st ρ
     | some (false,_)=>match cs[off]? with
      | some sv=>kk sv st ρ
      | none=>none
     | none=>none
    | _=>none
   | _=>none
 | .load ty a=>match hP st.live a with
  | some (.ptr cs)=>match X.T.lay ty with
   | some (true,n)=>(match (Nat.ble n cs.length:Bool) with | true=>kk (.agg (cs.take n)) st ρ | false=>none)
   | some (false,_)=>match cs with
    | sv :: _=>kk sv st ρ
    | []=>none
   | none=>none
  | some (.ref key off)=>match lk st.sto key with
   | some (.cells _ _ cs _)=>match X.T.lay ty with
    | some (true,n)=>(match (Nat.ble (off+n) cs.length:Bool) with | true=>kk (.agg ((cs.drop off).take n)) st ρ | false=>none)
    | some (false,_)=>match cs[off]? with
     | some sv=>kk sv st ρ
     | none=>none
    | none=>none
   | _=>none
  | some (.elt key sz i)=>match lk st.sto key,intOf ρ i with
   | some (.list _ j _),some n=>match listOf ρ (.var j) with
    | some ⟨τ,l⟩=>match X.T.lay ty with
     | some (g,m)=>(match (Nat.beq m τ.n && Nat.beq sz τ.n && aYn g (isP τ):Bool) with | true=>(aU l n).bind fun v=>bGK st ρ τ v kk | false=>none)
     | none=>none
    | none=>none
   | _,_=>none
  | _=>none
 | .binOp op ty x y _=>match hP st.live x,hP st.live y with
  | some a,some b=>bEK X.T op ty a b st ρ kk
  | _,_=>none
 | .unOp .not _ x=>match hP st.live x with
  | some (.bool b)=>kk (.bool (!b)) st ρ
  | some sv=>match aHo ρ sv with
   | some b=>uJ st ρ ⟨.bool,!b⟩ kk
   | none=>none
  | none=>none
 | .unOp .neg _ x=>match hP st.live x with
  | some sv=>match aH7 ρ sv with
   | some (k,a)=>uJ st ρ ⟨.int k,k.wrap (0 - a)⟩ kk
   | none=>none
  | none=>none
 | .convert src dst x=>match hP st.live x with
  | none=>none
  | some sv=>match lk X.T.kd src,lk X.T.kd dst with
   | some (.int _),some (.int k)=>match aH7 ρ sv with
    | some (_,a)=>uJ st ρ ⟨.int k,k.wrap a⟩ kk
    | none=>none
   | some .string,some .string=>match strOf ρ sv with
    | some _=>kk sv st ρ
    | none=>none
   | some (.slice e),some .string=>match lk X.T.kd e,listOf ρ sv with
    | some (.int .i32),some ⟨.int .i32,l⟩=>uJ st ρ ⟨.str,encR l⟩ kk
    | some (.int .u8),_=>bGy st ρ sv kk
    | _,_=>none
   | _,_=>none
 | .makeFunc (.func f) fi ca=>match aWO st.live fi.toList,aWO st.live ca.toList with
  | some a,some b=>kk (.fn f a b) st ρ
  | _,_=>none
 | .extract x j=>match hP st.live x with
  | some (.tup cs)=>match cs[j]? with
   | some sv=>kk sv st ρ
   | none=>none
  | _=>none
 | .build ty ps=>match lk X.T.zero ty,lk X.T.fld ty with
  | some zs,some fs=>(match ((fs.all fun f=>Nat.blt 0 f.2.2) && zs.all Value.oneCell':Bool) with
   | true=>(match aZj zs,aPq st.live ps.toList with
    | some cs,some ps=>(match aVV ρ (fun j=>(fs[j]?).map fun f=>(f.2.1,f.2.2)) cs ps with
     | some cs=>kk (.agg cs) st ρ
     | none=>none)
    | _,_=>none)
   | false=>none)
  | _,_=>none
 | .box _ v=>match hP st.live v with
  | some (.agg cs)=>kk (.ptr cs) st ρ
  | some sv=>(match (bAJ ρ sv:Bool) with | true=>kk (.ptr [sv]) st ρ | false=>none)
  | none=>none
 | .buildSlice ty n ps=>match lk X.T.kd ty with
  | some (.slice e)=>match lk X.T.zero e,lk X.T.sz e with
   | some zs,some sz =>
    (match (Nat.ble (n * sz) 16777216 && Nat.beq zs.length sz && Nat.ble n 16777216 && zs.all Value.oneCell':Bool) with
    | true=>(match aZj zs,aPq st.live ps.toList with
     | some cs,some ps=>(match aVV ρ (fun j=>some (j * sz,sz)) ((List.range (n * sz)).map fun j=>cs.getD (j % sz) .any) ps with
      | some cs=>kk (.slc cs n true) st ρ
      | none=>none)
     | _,_=>none)
    | false=>none)
   | _,_=>none
  | _=>none
 | .lookup ty x y false=>match hP st.live x,hP st.live y,lk X.T.mp ty with
  | some (.mp key),some sy,some (kt,et)=>match lk st.sto key,strOf ρ sy,lk X.T.kd kt,lk X.T.zv et with
   | some (.map j),some k,some .string,some zv=>match bFv ρ j with
    | some ⟨τ,l⟩=>match bBD τ zv with
     | some z0=>bGK st ρ τ ((jD l k).getD z0) kk
     | none=>none
    | none=>none
   | _,_,_,_=>none
  | _,_,_=>none
 | .indexAddr ty x i=>match x with
  | .global g=>bJf X ty g i st ρ kk
  | x=>bGE X.T ty x i st ρ kk
 | .index ty x i=>match lk X.T.kd ty,hP st.live x,hP st.live i with
  | some .string,some xs,some i=>match strOf ρ xs,aH7 ρ i with
   | some l,some (_,n)=>(aU l n).bind fun c=>uJ st ρ ⟨.int .u8,c.toNat⟩ kk
   | _,_=>none
  | _,_,_=>none
 | .slice ty x lo hi none=>match lk X.T.kd ty,hP st.live x with
  | some .string,some xs=>match strOf ρ xs with
   | some l=>match bBJ st.live ρ 0 lo,bBJ st.live ρ l.length hi with
    | some a,some b=>(jA l a b).bind fun v=>uJ st ρ ⟨.str,v⟩ kk
    | _,_=>none
   | none=>none
  | some (.slice e),some xs=>match lk X.T.sz e,listOf ρ xs with
   | some sz,some ⟨τ,l⟩=>(match (Nat.beq sz τ.n:Bool) with
    | true=>(match bBJ st.live ρ 0 lo,bBJ st.live ρ l.length hi with
     | some a,some b=>(jA l a b).bind fun v=>uJ st ρ ⟨.list false τ,v⟩ kk
     | _,_=>none)
    | false=>none)
   | _,_=>none
  | _,_=>none
 | .slice ty x none (some y) (some z)=>match lk X.T.kd ty,hP st.live x,hP st.live y,hP st.live z with
  | some (.slice e),some (.var j),some (.len j1),some (.len j2)=>match lk X.T.sz e,listOf ρ (.var j) with
   | some sz,some ⟨τ,l⟩=>(match (Nat.beq sz τ.n && Nat.beq j j1 && Nat.beq j j2:Bool) with | true=>uJ st ρ ⟨.list true τ,l⟩ kk | false=>none)
   | _,_=>none
  | _,_,_,_=>none
 | .call ⟨.builtin .len,args,tys⟩=>match args.toList,tys.toList with
  | [x],[ty]=>match lk X.T.kd ty,hP st.live x with
   | some .string,some (.str l)=>kk (.int .i64 (l.length:Nat)) st ρ
   | some .string,some (.var j)=>match ρ j with
    | ⟨.str,_⟩=>kk (.len j) st ρ
    | _=>none
   | some (.slice _),some .nils=>kk (.int .i64 0) st ρ
   | some (.slice _),some (.slc _ n _)=>kk (.int .i64 (n:Nat)) st ρ
   | some (.slice _),some (.row _ j)=>kk (.len j) st ρ
   | some (.slice _),some (.var j)=>match ρ j with
    | ⟨.list _ _,_⟩=>kk (.len j) st ρ
    | _=>none
   | _,_=>none
  | _,_=>none
 | .call ⟨.builtin .min,args,_⟩=>match aWO st.live args.toList with
  | some [x,y]=>match aH7 ρ x,aH7 ρ y with
   | some (k,a),some (_,b)=>uJ st ρ ⟨.int k,if b<a then b else a⟩ kk
   | _,_=>none
  | _=>none
 | .call ⟨.builtin .max,args,_⟩=>match aWO st.live args.toList with
  | some [x,y]=>match aH7 ρ x,aH7 ρ y with
   | some (k,a),some (_,b)=>uJ st ρ ⟨.int k,if a<b then b else a⟩ kk
   | _,_=>none
  | _=>none
 | _=>none

def aVn (st:St):Op→List Nat
 | .load _ a=>match hP st.live a with
  | some (.ref key _)=>[key]
  | some (.elt key _ _)=>[key]
  | _=>[]
 | .convert _ _ a=>match hP st.live a with
  | some (.row key _)=>[key]
  | _=>[]
 | .lookup _ x _ _=>match hP st.live x with
  | some (.mp key)=>[key]
  | _=>[]
 | _=>[]

theorem vB.weaken {o:Oper} {st:St} {ρ:bW} {ids:jI} {rd:List Nat} {kk:SV→St→bW→Option R} {r:R} (h:vB P o st ρ ids [] kk r):vB P o st ρ ids rd kk r:=by
 obtain ⟨sv,st',ρ',h1,h2,h3⟩:=h
 exact ⟨sv,st',ρ',h1,h2,fun s _=>h3 s fun key o' hm _=>by simp [rQ] at hm⟩

theorem bE3 {τ:Ty} {l:List τ.D} {n:Int} {v:τ.D} (h:aU l n=some v) {g:Bool} {m:Nat} (hm:m=τ.n) (hg:g=isP τ) (h1:g=false→m=1) :
  (match some (g,m) with | some (true,n')=>if Nat.ble (n.toNat * τ.n+n') (l.flatMap τ.cells).length then some (AV.agg (((l.flatMap τ.cells).drop (n.toNat * τ.n)).take n')) else none | some (false,_)=>(l.flatMap τ.cells)[n.toNat * τ.n]? | none=>none)=some (τ.av v):=by
 obtain ⟨h0,hlt,hget⟩:=aCz h
 obtain ⟨r,hr⟩:=aLQ (e:=τ.cells) (sz:=τ.n) (Ty.cells_len τ) hget
 have hv:=Ty.cells_len τ v
 rw [Ty.av_cells]
 cases g with
 | true =>
  simp only
  have hle:n.toNat * τ.n+m≤(l.flatMap τ.cells).length:=by
   rw [aC5 (Ty.cells_len τ),hm]
   have:n.toNat+1≤l.length:=by omega
   calc n.toNat * τ.n+τ.n=(n.toNat+1) * τ.n:=by rw [Nat.add_mul,Nat.one_mul]
    _≤l.length * τ.n:=Nat.mul_le_mul_right _ this
  rw [if_pos (by simpa using hle),hr,hm,← hv,List.take_left,← hg,if_pos rfl]
 | false =>
  simp only
  have hm1:τ.n=1:=by rw [← hm]; exact h1 rfl
  rw [← hg,if_neg (by simp)]
  have:=congrArg (fun l=>l[0]?) hr
  simp only [List.getElem?_drop,Nat.add_zero] at this
  rw [this,List.getElem?_append_left (by rw [hv,hm1]; exact Nat.one_pos)]
  cases hc:τ.cells v with
  | nil=>rw [hc,hm1] at hv; cases hv
  | cons x xs=>rfl

theorem aWT {X:XT} (hX:XOk P X) {o:Oper} {st:St} {ρ:bW} {ids:jI} {kk:SV→St→bW→Option R} {r:R} (h:bCu X o.op st ρ kk=some r):vB P o st ρ ids (aVn st o.op) kk r:=by
 have hT:=hX.tt
 have pp:∀ {av:AV},pop X.T (eA st ρ ids) o.op=some av→∀ s,sP P o (eA st ρ ids) s (fun x y=>x=av∧y=s):=fun hp s=>aLK hT hp
 obtain ⟨dst,op,type,pos,after,guard⟩:=o
 simp only at h pp ⊢
 cases op <;> simp only [bCu] at h <;> first | (cases h; done) | skip
 case move x =>
  split at h
  ·cases h
  ·rename_i sv hx
   exact vB.val h (pp (by simp only [pop]; rw [bB hx]))
 case assign x =>
  split at h
  ·cases h
  ·rename_i sv hx
   exact vB.val h (pp (by simp only [pop]; rw [bB hx]))
 case pick c a b =>
  split at h
  ·rename_i c' a' b' h1 h2 h3
   rcases aXr h with ⟨hb,h⟩ | ⟨hb,h⟩
   ·exact vB.val h (pp (by simp only [pop]; rw [bB h1,qB hb,bB h2]; rfl))
   ·exact vB.val h (pp (by simp only [pop]; rw [bB h1,qB hb,bB h3]; rfl))
  ·cases h
 case nilCheck x =>
  split at h
  ·rename_i cs hx; exact vB.val h (pp (by simp only [pop]; rw [bB hx]; simp [aL]))
  ·rename_i k o hx; exact vB.val h (pp (by simp only [pop]; rw [bB hx]; simp [aL]))
  ·rename_i f a b hx; exact vB.val h (pp (by simp only [pop]; rw [bB hx]; simp [aL]))
  ·rename_i j hx
   rcases bAh h with ⟨hd,h⟩ | ⟨k,m,nm,mk,ks,hd,h⟩
   ·cases h
   ·obtain ⟨h1,h2⟩:=aOz h
    refine ⟨_,_,_,h1,h2,fun s _=>?_⟩
    have e:=aUj ids ρ st.nv [⟨.int .i64,k⟩,⟨.int .i64,m⟩,⟨.str,nm⟩,⟨.str,mk⟩,⟨.list false .tree,ks⟩]
    refine pp ?_ s
    simp only [pop]
    rw [bB hx]
    simp only [aL,hd]
    simp only [List.length_cons,List.length_nil,Nat.zero_add,Nat.reduceAdd] at e ⊢
    rw [e]
    simp only [Dyn.av,Ty.av,List.map_cons,List.map_nil]
    rw [show List.flatMap Ty.tree.cells ks=ks.map .tree from aVY ks]
  ·cases h
 case fieldAddr ty x f =>
  split at h
  ·cases h
  ·rename_i fs hf
   split at h
   ·rename_i fty off sz hg
    split at h
    ·rename_i cs hx
     exact vB.val h (pp (by simp only [pop,hf,hg]; rw [bB hx]; simp only [aL]; rw [cH,cH,List.map_drop]))
    ·rename_i k o hx
     exact vB.val h (pp (by simp only [pop,hf,hg]; rw [bB hx]; simp only [aL]))
    ·cases h
   ·cases h
 case field ty x f =>
  split at h
  ·cases h
  ·rename_i fs hf
   split at h
   ·rename_i fty off sz hg
    split at h
    ·rename_i cs hx
     split at h
     ·rename_i n hl
      exact vB.val h (pp (by simp only [pop,hf,hg,hl]; rw [bB hx]; simp only [aL]; rw [cH,cH,List.map_take,List.map_drop]))
     ·rename_i n hl
      split at h
      ·rename_i sv hs
       exact vB.val h (pp (by simp only [pop,hf,hg,hl]; rw [bB hx]; simp only [aL]; exact aIb ρ ids hs))
      ·cases h
     ·cases h
    ·cases h
   ·cases h
 case load ty a =>
  split at h
  ·rename_i cs hx
   split at h
   ·rename_i n hl
    split at h
    ·rename_i hb
     exact vB.val h (pp (by simp only [pop,hl]; rw [bB hx]; simp only [aL]; rw [fE,if_pos hb,cH,cH,List.map_take]))
    ·cases h
   ·rename_i n hl
    split at h
    ·rename_i sv cs'
     exact vB.val h (pp (by simp only [pop,hl]; rw [bB hx]; simp only [aL,bQ]; rfl))
    ·cases h
   ·cases h
  ·rename_i key off hx
   split at h
   ·rename_i e sz cs fz hk
    have hrd:rQ key (aVn st (.load ty a))=true:=by simp only [aVn,hx,rQ,eB,if_true]
    split at h
    ·rename_i n hl
     split at h
     ·rename_i hb
      refine ⟨_,_,_,h,Ext.refl _ _,fun s hs=>?_⟩
      refine aQr (off:=off) hT (hs key _ hrd hk) rfl (by rw [bB hx]; simp only [aL]) ?_
      rw [hl]
      simp only [aL]
      rw [fE,if_pos hb,cH,cH,List.map_take,List.map_drop]
     ·cases h
    ·rename_i n hl
     split at h
     ·rename_i sv hsv
      refine ⟨_,_,_,h,Ext.refl _ _,fun s hs=>?_⟩
      refine aQr (off:=off) hT (hs key _ hrd hk) rfl (by rw [bB hx]; simp only [aL]) ?_
      rw [hl]
      exact aIb ρ ids hsv
     ·cases h
    ·cases h
   ·cases h
  ·rename_i key sz i hx
   split at h
   ·rename_i e j fz n hk hi
    have hrd:rQ key (aVn st (.load ty a))=true:=by simp only [aVn,hx,rQ,eB,if_true]
    split at h
    ·rename_i τ l hl
     split at h
     ·rename_i g m hlay
      split at h
      ·rename_i hb
       simp only [Bool.and_eq_true] at hb
       have hm:=Nat.eq_of_beq_eq_true hb.1.1
       have hsz:=Nat.eq_of_beq_eq_true hb.1.2
       have hg:=aIL hb.2
       obtain ⟨v,hv,h⟩:=aM h
       obtain ⟨sv,st',ρ',h1,h2,h3⟩:=bBx h
       refine ⟨_,_,_,h1,h2,fun s hs=>?_⟩
       have hd:∃ f,ρ j=⟨.list f τ,l⟩:=by
        unfold listOf at hl
        simp only at hl
        split at hl
        ·rename_i f' e' l' hd; cases hl; exact ⟨_,hd⟩
        ·cases hl
       obtain ⟨f,hd⟩:=hd
       have hmem:=hs key _ hrd hk
       simp only [dQ,hd] at hmem
       rw [h3]
       refine aQr (off:=n.toNat * τ.n) hT hmem rfl (by rw [bB hx]; simp only [aL,hi]; rw [hsz]) ?_
       rw [hlay]
       exact bE3 hv hm hg (fun hgf=>(TT.lay_inv hlay).choose_spec.2.2.2 hgf)
      ·cases h
     ·cases h
    ·cases h
   ·cases h
  ·cases h
 case binOp op ty x y yt =>
  split at h
  ·rename_i a b hx hy
   exact bCY hT rfl hx hy h
  ·cases h
 case unOp op ty x =>
  cases op <;> simp only at h <;> first | (cases h; done) | skip
  ·split at h
   ·rename_i sv hx
    split at h
    ·rename_i k a hk
     exact vB.new1 h (pp (by simp only [pop]; rw [bB hx,kL hk]; rfl))
    ·cases h
   ·cases h
  ·split at h
   ·rename_i b hx
    exact vB.val h (pp (by simp only [pop]; rw [bB hx]; simp only [aL]))
   ·rename_i sv hne hx
    split at h
    ·rename_i b hb
     exact vB.new1 h (pp (by simp only [pop]; rw [bB hx,qB hb]; rfl))
    ·cases h
   ·cases h
 case convert src dst x =>
  split at h
  ·cases h
  ·rename_i sv hx
   split at h
   ·rename_i k1 k2 hs hd
    split at h
    ·rename_i k a hk
     exact vB.new1 h (pp (by simp only [pop,hs,hd]; rw [bB hx,kL hk]; rfl))
    ·cases h
   ·rename_i hs hd
    split at h
    ·rename_i l hl
     exact vB.val h (pp (by simp only [pop,hs,hd]; rw [bB hx,aBn hl]))
    ·cases h
   ·rename_i e hs hd
    split at h
    ·rename_i l he hl
     obtain ⟨f,hf⟩:=aQ4 (ids:=ids) hl
     exact vB.new1 h fun s=>bBV hT rfl hs he hd (by rw [bB hx,hf])
    ·skip
     unfold bGy at h
     split at h
     ·rename_i x1
      split at h
      ·rename_i c hc
       exact vB.new1 h fun s=>aXA (fu:=true) hT rfl hs (by assumption) hd (by rw [bB hx]; simp only [aL,bQ,kL hc])
      ·cases h
     ·rename_i key j
      split at h
      ·rename_i e' j' fz' hk
       split at h
       ·rename_i f l hj'
        by_cases hlen:vH (ρ j)=l.length
        ·rw [if_pos hlen] at h
         have hrd:rQ key (aVn st (.convert src dst x))=true:=by simp only [aVn,hx,rQ,eB,if_true]
         obtain ⟨st',ρ',h1,h2,h3⟩:=aFj h
         refine ⟨_,st',ρ',h1,h2,fun s hs'=>?_⟩
         rw [h3]
         have hmem:=hs' key _ hrd hk
         simp only [dQ,hj'] at hmem
         exact aWX hT rfl hs (by assumption) hd hmem (by rw [bB hx]; simp only [aL]; rw [hlen])
        ·rw [if_neg hlen] at h; cases h
       ·cases h
      ·cases h
     ·cases h
    ·cases h
   ·cases h
 case makeFunc f fi ca =>
  cases f <;> simp only at h <;> first | (cases h; done) | skip
  split at h
  ·rename_i a b ha hb
   exact vB.val h (pp (by simp only [pop]; rw [aLV ha,aLV hb]; simp only [aL]))
  ·cases h
 case extract x j =>
  split at h
  ·rename_i cs hx
   split at h
   ·rename_i sv hs
    exact vB.val h (pp (by simp only [pop]; rw [bB hx]; simp only [aL]; exact aIb ρ ids hs))
   ·cases h
  ·cases h
 case build ty ps =>
  split at h
  ·rename_i zs fs hz hf
   split at h
   ·rename_i hb
    split at h
    ·rename_i cs ps' hc hp
     split at h
     ·rename_i cs' hfil
      refine vB.val h (pp ?_)
      have q:=aPp (ids:=ids) hfil
      simp only [pop,hz,hf]
      rw [if_neg (by rw [hb]; simp)]
      unfold aHc
      rw [aNK hp,← aSF (ρ:=ρ) (ids:=ids) hc,q]
      simp [aL]
     ·cases h
    ·cases h
   ·cases h
  ·cases h
 case box e v =>
  split at h
  ·rename_i cs hx
   exact vB.val h (pp (by simp only [pop]; rw [bB hx]; simp only [aL]))
  ·rename_i sv hne hx
   split at h
   ·rename_i hsc
    refine vB.val h (pp ?_)
    have hs:=aPU (ids:=ids) hsc
    simp only [pop]
    rw [bB hx]
    simp only [aL,bQ]
    split
    ·rename_i cs hcs; rw [hcs] at hs; cases hs
    ·rw [if_pos hs]
   ·cases h
  ·cases h
 case buildSlice ty n ps =>
  split at h
  ·rename_i e hk
   split at h
   ·rename_i zs sz hz hs
    split at h
    ·rename_i hb
     split at h
     ·rename_i cs ps' hc hp
      split at h
      ·rename_i cs' hfil
       refine vB.val h (pp ?_)
       have q:=aPp (ids:=ids) hfil
       simp only [pop,hk,hz,hs]
       rw [if_pos hb]
       unfold aHc
       rw [aNK hp]
       have e1:bQ ρ ids ((List.range (n * sz)).map fun j=>cs.getD (j % sz) .any)=(List.range (n * sz)).map fun j=>(zs.map AV.ofConst).getD (j % sz) .any:=by
        rw [cH,List.map_map]
        apply List.map_congr_left
        intro j _
        simp only [Function.comp]
        rw [aZ1,aSF hc]
       rw [← e1,q]
       simp [aL]
      ·cases h
     ·cases h
    ·cases h
   ·cases h
  ·cases h
 case lookup ty x y ok =>
  cases ok <;> simp only at h <;> first | (cases h; done) | skip
  split at h
  ·rename_i key sy kt et hx hy hmp
   split at h
   ·rename_i j k zv hk hs hkt hz
    split at h
    ·rename_i τ l hm
     split at h
     ·rename_i z0 hz0
      obtain ⟨f,hd⟩:=bA5 hm
      obtain ⟨sv,st',ρ',h1,h2,h3⟩:=bBx h
      refine ⟨_,_,_,h1,h2,fun s hmem=>?_⟩
      have hrd:rQ key (aVn st (.lookup ty x y false))=true:=by simp only [aVn,hx,rQ,eB,if_true]
      have hq:=hmem key _ hrd hk
      simp only [dQ,hd,Go.Sx.mapOf] at hq
      rw [h3]
      exact aYB (g:=τ.av) (l:=l) hT rfl hmp hkt hz (aXN hz0) (by rw [bB hx]; simp only [aL]) (by rw [bB hy,aBn hs]) hq
     ·cases h
    ·cases h
   ·cases h
  ·cases h
 case indexAddr ty x i =>
  have hmain:∀ x,bGE X.T ty x i st ρ kk=some r→vB P ⟨dst,.indexAddr ty x i,type,pos,after,guard⟩ st ρ ids [] kk r:=by
   intro x h
   clear pp
   unfold bGE at h
   split at h
   ·rename_i e xs i' hk hx hi
    split at h
    ·rename_i sz k n hs hn
     split at h
     ·rename_i cs m fl
      split at h
      ·split at h
       ·rename_i a
        split at h
        ·rename_i hlt
         refine vB.val h fun s=>?_
         simp only [aL]
         rw [cH,List.map_drop,← cH]
         have:=aJd (P:=P) (o:=⟨dst,.indexAddr ty x i,type,pos,after,guard⟩) (s:=s) (t:=eA st ρ ids) (cs:=bQ ρ ids cs) (n:=m) (fu:=fl) (k:=k) (j:=Int.ofNat a) hT rfl hk hs (by rw [bB hx]; simp only [aL]) (by rw [bB hi,kL hn]) (by simp) (by have:=mP hlt; simpa using this)
         exact this
        ·cases h
       ·cases h
      ·split at h
       ·rename_i l hl
        split at h
        ·rename_i hb
         simp only [Bool.and_eq_true] at hb
         have hsz':=Nat.eq_of_beq_eq_true hb.1
         have hlen:=Nat.eq_of_beq_eq_true hb.2
         obtain ⟨v,hv,h⟩:=aM h
         obtain ⟨sv,st',ρ',h1,h2,h3⟩:=aXf h
         refine ⟨_,_,_,h1,h2,fun s _=>?_⟩
         rw [h3]
         refine aYD (sz:=sz) (g:=Ty.cells .str) (l:=l) (fu:=fl) hT (fun x=>by rw [hsz']; rfl) rfl hk hs ?_ (by rw [bB hi,kL hn]) hv
         rw [bB hx]
         simp only [aL]
         rw [aWr hl,← hlen]
        ·cases h
       ·cases h
     ·rename_i key j
      split at h
      ·rename_i hpos
       split at h
       ·rename_i hb
        refine vB.val h fun s=>?_
        simp only [aL]
        rw [bE7 hn]
        exact aWC hT rfl hk hs (by rw [bB hx]; simp only [aL]) (by rw [bB hi,kL hn]) hb.1 hb.2
       ·cases h
      ·cases h
     ·split at h
      ·rename_i τ l hl
       split at h
       ·rename_i hsz
        have hsz':=Nat.eq_of_beq_eq_true hsz
        obtain ⟨v,hv,h⟩:=aM h
        obtain ⟨sv,st',ρ',h1,h2,h3⟩:=aXf h
        refine ⟨_,_,_,h1,h2,fun s _=>?_⟩
        rw [h3]
        obtain ⟨f,hf⟩:=aQ4 (ids:=ids) hl
        exact aYD (sz:=sz) hT (fun x=>by rw [Ty.cells_len,hsz']) rfl hk hs (by rw [bB hx,hf]) (by rw [bB hi,kL hn]) hv
       ·cases h
      ·cases h
    ·cases h
   ·cases h
  cases x with
  | global g =>
   simp only at h
   unfold bJf at h
   split at h
   ·rename_i f τ l len e i' hg ha hi
    split at h
    ·rename_i k n sz hn hsz
     split at h
     ·rename_i hb
      simp only [Bool.and_eq_true] at hb
      have e3:=Nat.eq_of_beq_eq_true hb.1
      have hle:=Nat.le_of_ble_eq_true hb.2
      obtain ⟨v,hv,h⟩:=aM h
      obtain ⟨vs,hvs,hcs⟩:=hX.tab' hg
      simp only [bAm] at hcs
      obtain ⟨h0,hlt,hget⟩:=aCz hv
      obtain ⟨sv,st',ρ',h1,h2,h3⟩:=aXf h
      refine ⟨_,_,_,h1,h2,fun s _=>?_⟩
      rw [h3]
      obtain ⟨rr,hrr⟩:=aLQ (e:=τ.cells) (sz:=τ.n) (Ty.cells_len τ) hget
      have:=bAs (P:=P) (o:=⟨dst,.indexAddr ty (.global g) i,type,pos,after,guard⟩) (t:=eA st ρ ids) (s:=s) hT rfl ha hsz (by rw [bB hi,kL hn]) hvs h0 (by omega)
      refine this.view fun mm ii u hu=>?_
      rw [e3,← hcs,hrr] at hu
      exact jS.ptr_take (τ.cells v) rr _ _ _ hu
     ·cases h
    ·cases h
   ·cases h
  | tmp k=>exact (hmain _ h).weaken
  | const v=>exact (hmain _ h).weaken
  | func f=>exact (hmain _ h).weaken
 case index ty x i =>
  split at h
  ·rename_i xs i' hk hx hi
   split at h
   ·rename_i l k n hl hn
    obtain ⟨c,hc,h⟩:=aM h
    exact vB.new1 h fun s=>bEI hT hc rfl hk (by rw [bB hx,aBn hl]) (by rw [bB hi,kL hn])
   ·cases h
  ·cases h
 case slice ty x lo hi mx =>
  cases mx with
  | none =>
   simp only at h
   split at h
   ·rename_i xs hk hx
    split at h
    ·rename_i l hl
     split at h
     ·rename_i a b h1 h2
      obtain ⟨v,hv,h⟩:=aM h
      exact vB.new1 h fun s=>bD3 hT hv rfl hk (by rw [bB hx,aBn hl]) (aSJ h1) (aSJ h2)
     ·cases h
    ·cases h
   ·rename_i e xs hk hx
    split at h
    ·rename_i sz τ l hs hl
     split at h
     ·rename_i hsz
      have hsz':=Nat.eq_of_beq_eq_true hsz
      split at h
      ·rename_i a b h1 h2
       obtain ⟨v,hv,h⟩:=aM h
       obtain ⟨f,hf⟩:=aQ4 (ids:=ids) hl
       exact vB.new1 h fun s=>bDg (sz:=sz) hT (fun x=>by rw [Ty.cells_len,hsz']) hv rfl hk hs (by rw [bB hx,hf]) (aSJ h1) (aSJ h2)
      ·cases h
     ·cases h
    ·cases h
   ·cases h
  | some z =>
   cases lo <;> cases hi <;> simp only at h <;> first | (cases h; done) | skip
   rename_i y
   split at h
   ·rename_i e j j1 j2 hk hx hy hz
    split at h
    ·rename_i sz τ l hs hl
     split at h
     ·rename_i hb
      simp only [Bool.and_eq_true] at hb
      have hsz:=Nat.eq_of_beq_eq_true hb.1.1
      have e1:=Nat.eq_of_beq_eq_true hb.1.2
      have e2:=Nat.eq_of_beq_eq_true hb.2
      subst e1; subst e2
      have hd:∃ f,ρ j=⟨.list f τ,l⟩:=by
       unfold listOf at hl
       simp only at hl
       split at hl
       ·rename_i f' e' l' hd; cases hl; exact ⟨_,hd⟩
       ·cases hl
      obtain ⟨f,hd⟩:=hd
      refine vB.new1 h fun s=>?_
      refine aYq (fu:=f) hT rfl hk hs (by rw [bB hx]; simp only [aL,hd]; rfl) (by rw [bB hy]; simp only [aL,hd,vH]) (by rw [bB hz]; simp only [aL,hd,vH])
     ·cases h
    ·cases h
   ·cases h
 case call c =>
  obtain ⟨callee,args,tys⟩:=c
  cases callee <;> (try simp only at h) <;> first | (cases h; done) | skip
  rename_i b
  cases b <;> (try simp only at h) <;> first | (cases h; done) | skip
  ·-- len
   split at h
   ·rename_i x ty ha ht
    have ps:∀ {av:AV},aHV X.T (eA st ρ ids) .len [x] [ty]=some av→∀ s,sP P ⟨dst,.call ⟨.builtin .len,args,tys⟩,type,pos,after,guard⟩ (eA st ρ ids) s (fun x y=>x=av∧y=s):=fun hp s=>aLK hT (by simp only [pop,ha,ht]; exact hp)
    split at h
    ·rename_i l hk hx
     exact vB.val h (ps (by simp only [aHV,hk]; rw [bB hx]; simp [aL]))
    ·rename_i j hk hx
     split at h
     ·rename_i l hd
      exact vB.val h (ps (by simp only [aHV,hk]; rw [bB hx]; simp only [aL,hd]; simp [Dyn.av,Ty.av,vH]))
     ·cases h
    ·rename_i e hk hx
     exact vB.val h (ps (by simp only [aHV,hk]; rw [bB hx]; simp [aL]))
    ·rename_i e cs n f hk hx
     exact vB.val h (ps (by simp only [aHV,hk]; rw [bB hx]; simp [aL]))
    ·rename_i e key j hk hx
     exact vB.val h (ps (by simp only [aHV,hk]; rw [bB hx]; simp [aL]))
    ·rename_i e j hk hx
     split at h
     ·rename_i f τ l hd
      exact vB.val h (ps (by simp only [aHV,hk]; rw [bB hx]; simp only [aL,hd]; simp [Dyn.av,Ty.av,vH]))
     ·cases h
    ·cases h
   ·cases h
  ·-- max
   split at h
   ·rename_i x y ha
    split at h
    ·rename_i k a k' b hx hy
     refine vB.new1 h (pp ?_)
     have e:=aLV (ρ:=ρ) (ids:=ids) ha
     match hargs:args.toList with
     | [x1,y1] =>
      rw [hargs] at e
      simp only [List.map_cons,List.map_nil,bQ,List.cons.injEq,and_true] at e
      simp only [pop,hargs]
      cases htl:tys.toList with
      | nil=>simp only [aHV]; rw [e.1,e.2,kL hx,kL hy]; rfl
      | cons t ts=>simp only [aHV]; rw [e.1,e.2,kL hx,kL hy]; rfl
     | []=>rw [hargs] at e; simp [bQ] at e
     | [_]=>rw [hargs] at e; simp [bQ] at e
     | _ :: _ :: _ :: _=>rw [hargs] at e; simp [bQ] at e
    ·cases h
   ·cases h
  ·-- min
   split at h
   ·rename_i x y ha
    split at h
    ·rename_i k a k' b hx hy
     refine vB.new1 h (pp ?_)
     have e:=aLV (ρ:=ρ) (ids:=ids) ha
     match hargs:args.toList with
     | [x1,y1] =>
      rw [hargs] at e
      simp only [List.map_cons,List.map_nil,bQ,List.cons.injEq,and_true] at e
      simp only [pop,hargs]
      cases htl:tys.toList with
      | nil=>simp only [aHV]; rw [e.1,e.2,kL hx,kL hy]; rfl
      | cons t ts=>simp only [aHV]; rw [e.1,e.2,kL hx,kL hy]; rfl
     | []=>rw [hargs] at e; simp [bQ] at e
     | [_]=>rw [hargs] at e; simp [bQ] at e
     | _ :: _ :: _ :: _=>rw [hargs] at e; simp [bQ] at e
    ·cases h
   ·cases h
end
end Go.Sx

/- The executor, part 6: operations that turn the store; calls. -/
namespace Go.Am
open Go
section
variable {P:Program} {t:mA} {s:aN}
theorem sP.views {o:Oper} {t':mA} {s':aN} {R:AV→aN→Prop}
  (h:∀ w m i (a:Act),nX w m i s→(∀ k,Operand.tmp k∈o.op.operands→VR m i (t k) (a.tmps.getD k undef)) →
   ∃ m' i',nX w m' i' s'∧(∀ k,Operand.tmp k∈o.op.operands→VR m' i' (t' k) (a.tmps.getD k undef))∧Step w m i s w m' i' s') (k:sP P o t' s' R):sP P o t s R:=by
 intro a w m i hr hop K Q hK
 obtain ⟨m',i',h1,h2,h3⟩:=h w m i a hr hop
 exact k a w m' i' h1 h2 K Q fun v w' av s'' m'' i'' q1 q2 q3 q4=>hK v w' av s'' m'' i'' q1 q2 q3 (h3.trans q4)

theorem sP.shift {o:Oper} {s':aN} {R:AV→aN→Prop} (h:iQ (fun _=>.any) s (fun _=>.any) s') (k:sP P o t s' R):sP P o t s R :=
 sP.views (fun w m i a hr hop=>by
  obtain ⟨m',i',h1,_,h3⟩:=h w m i a hr (fun _=>trivial)
  exact ⟨m',i',h1,fun k hk=>VR.mono h3.mu h3.io _ _ (hop k hk),h3⟩) k

theorem eM.mono {s s':aN} {x y:AV} (h:eM s x y) (hs:s.Sublist s'):eM s' x y:=fun w m i v hr hv=>h w m i v (hr.sub hs) hv

theorem bBL {o:Oper} {f:Operand} {args:Array Operand} {tys:Array TypeId} {fid:Nat} {caps first:List AV} {xs args':List AV} {sm r:aN} {Q:AV→aN→Prop} {fn:Func}
  (ho:o.op=.call ⟨.value f,args,tys⟩) (hf:ev t f=.fn (.func fid) first caps) (hfn:P.funcs[fid]?=some fn) (hb:fn.body.isNone=false) (hnm:(fn.name == "runtime.NumGoroutine")=false)
  (hc:lO P fid args' sm Q) (hxs:first++aTv t args.toList++caps=xs)
  (hv:∀ w m i vs,nX w m i s→VL m i xs vs→nX w m i (sm++r)∧VL m i args' vs) (hid:∀ p∈sm++r,∃ q∈s,q.1=p.1) :
  sP P o t s (fun v z=>∃ z1,Q v z1∧z=z1++r):=by
 intro a w m i hr hop K Q' hK
 rw [ho] at hop
 have v1:=yX (x:=f) hop (by simp [Op.operands,Call.operands])
 rw [hf] at v1
 obtain ⟨fs,cs,e1,e2,e3⟩:=v1
 have hargs:VL m i (aTv t args.toList) (args.toList.map a.eval):=VL.map_ev _ fun k hk=>hop k (by simp [Op.operands,Call.operands]; exact .inr (by simpa using hk))
 obtain ⟨hr2,hall⟩:=hv w m i _ hr (hxs ▸ (e2.append hargs).append e3)
 unfold Oper.wp
 have hrun:(execOp a.eval o).run P w=.ok (.enter fid (fs++args.toList.map a.eval++cs).toArray) w:=by
  have harr:fs.toArray++Array.map a.eval args++cs.toArray=(fs++args.toList.map a.eval++cs).toArray:=by
   apply Array.toList_inj.1; simp
  rw [← harr]
  simp only [execOp,ho,resolve,e1,Deferred.ofValue,invoke,Sem.run_bind,Sem.run_pure,Result.andThen_ok,aPE hfn hb hnm]
 rw [hrun]
 refine ((hc.frame (List.Perm.refl _)) w m i _ hr2 hall).mono ?_
 rintro e w' ⟨v,av,s',m',i',rfl,q,hv,hr',hst⟩
 exact hK v w' av s' m' i' q hv hr' ((Step.same hid).trans hst)
end
end Go.Am
namespace Go.Sx
open Go Go.Am

/-! ### keys -/
def aPX (key:Nat) (o:OB):List (Nat×OB)→List (Nat×OB)
 | []=>[]
 | p :: l=>if Nat.beq key p.1 then (key,o) :: l else p :: aPX key o l
def aNu (key:Nat):List (Nat×OB)→List (Nat×OB)
 | []=>[]
 | p :: l=>if Nat.beq key p.1 then l else p :: aNu key l
def aNS (key:Nat):List (Nat×OB)→Nat
 | []=>0
 | p :: l=>if Nat.beq key p.1 then 0 else aNS key l+1
theorem wI {ρ:bW} {ids:jI} {key:Nat} {o o':OB}:∀ {l:List (Nat×OB)},lk l key=some o →
  (bL l ρ ids)[aNS key l]?=some (ids key,dQ ρ ids o)∧(bL l ρ ids).set (aNS key l) (ids key,dQ ρ ids o')=bL (aPX key o' l) ρ ids∧(bL l ρ ids).eraseIdx (aNS key l)=bL (aNu key l) ρ ids
 | [],h=>by simp [lk] at h
 | (k',u) :: l,h=>by
  unfold lk at h
  by_cases e:key=k'
  ·subst e
   rw [eB,if_pos rfl] at h
   cases h
   exact ⟨by simp [aNS,bL],by simp [aNS,aPX,bL],by simp [aNS,aNu,bL]⟩
  ·rw [fN e] at h
   obtain ⟨h1,h2,h3⟩:=wI (ρ:=ρ) (ids:=ids) (o':=o') (l:=l) h
   have hi:aNS key ((k',u) :: l)=aNS key l+1:=by simp [aNS,fN e]
   rw [hi]
   refine ⟨by simpa [bL] using h1,?_,?_⟩
   ·simp only [aPX,fN e,bL,List.map_cons,List.set_cons_succ]
    simp only [bL] at h2
    rw [h2]; rfl
   ·simp only [aNu,fN e,bL,List.map_cons,List.eraseIdx_cons_succ]
    simp only [bL] at h3
    rw [h3]; rfl
/-! ### names anew -/
mutual
def aBy (fv fk:Nat→Nat):SV→SV
 | .var j=>.var (fv j)
 | .len j=>.len (fv j)
 | .int k n=>.int k n
 | .bool b=>.bool b
 | .str l=>.str l
 | .nilp=>.nilp
 | .nils=>.nils
 | .nilf=>.nilf
 | .nilm=>.nilm
 | .und=>.und
 | .any=>.any
 | .ptr cs=>.ptr (aCE fv fk cs)
 | .slc cs n f=>.slc (aCE fv fk cs) n f
 | .ref k o=>.ref (fk k) o
 | .elt k n i=>.elt (fk k) n (aBy fv fk i)
 | .row k j=>.row (fk k) (fv j)
 | .fn f a b=>.fn f (aCE fv fk a) (aCE fv fk b)
 | .mp k=>.mp (fk k)
 | .it k=>.it (fk k)
 | .agg cs=>.agg (aCE fv fk cs)
 | .tup cs=>.tup (aCE fv fk cs)
def aCE (fv fk:Nat→Nat):List SV→List SV
 | []=>[]
 | x :: xs=>aBy fv fk x :: aCE fv fk xs
end
def aRr (fv fk:Nat→Nat):OB→OB
 | .cells e n cs f=>.cells e n (aCE fv fk cs) f
 | .list e j none=>.list e (fv j) none
 | .list e j (some z)=>.list e (fv j) (some (fv z))
 | .map j=>.map (fv j)
 | .iter j p=>.iter (fv j) (fv p)
 | .glob b j=>.glob b (fv j)
def aXF (fv fk:Nat→Nat):List (Nat×OB)→List (Nat×OB)
 | []=>[]
 | p :: l=>(fk p.1,aRr fv fk p.2) :: aXF fv fk l

section
variable {fv fk:Nat→Nat} {ρ ρ':bW} {ids ids':jI} (hv:∀ j,ρ' (fv j)=ρ j) (hk:∀ k,ids' (fk k)=ids k)
include hv in
theorem bBO (x:SV):intOf ρ' (aBy fv fk x)=intOf ρ x:=by
 cases x <;> simp only [aBy,intOf,hv]
include hv hk
mutual
theorem aXU:∀ (x:SV),aL ρ' ids' (aBy fv fk x)=aL ρ ids x
 | .var j=>by simp only [aBy,aL,hv]
 | .len j=>by simp only [aBy,aL,hv]
 | .int _ _ | .bool _ | .str _ | .nilp | .nils | .nilf | .nilm | .und | .any=>by simp only [aBy,aL]
 | .ptr cs=>by simp only [aBy,aL]; rw [aA0 cs]
 | .slc cs _ _=>by simp only [aBy,aL]; rw [aA0 cs]
 | .agg cs=>by simp only [aBy,aL]; rw [aA0 cs]
 | .tup cs=>by simp only [aBy,aL]; rw [aA0 cs]
 | .ref k o=>by simp only [aBy,aL,hk]
 | .mp k=>by simp only [aBy,aL,hk]
 | .it k=>by simp only [aBy,aL,hk]
 | .row k j=>by simp only [aBy,aL,hk,hv]
 | .elt k n i=>by simp only [aBy,aL,hk]; rw [bBO hv]
 | .fn f a b=>by simp only [aBy,aL]; rw [aA0 a,aA0 b]
theorem aA0:∀ (x:List SV),bQ ρ' ids' (aCE fv fk x)=bQ ρ ids x
 | []=>by have _:=hv; have _:=hk; simp only [aCE,bQ]
 | x :: xs=>by simp only [aCE,bQ]; rw [aXU x,aA0 xs]
end
theorem aSU:∀ (x:List SV),(aCE fv fk x).length=x.length
 | []=>by have _:=hv; have _:=hk; rfl
 | x :: xs=>by simp [aCE,aSU xs]
theorem bDN (o:OB):dQ ρ' ids' (aRr fv fk o)=dQ ρ ids o:=by
 cases o with
 | cells e n cs f=>simp only [aRr,dQ]; rw [aA0 hv hk,aSU hv hk]
 | list e j fz =>
  cases fz with
  | none=>simp only [aRr,dQ,hv]; rfl
  | some z=>simp only [aRr,dQ,hv,aCf]
 | map j=>simp only [aRr,dQ,hv]
 | iter j p=>simp only [aRr,dQ,hv]
 | glob b j=>simp only [aRr,dQ,hv]
theorem aV7:∀ (l:List (Nat×OB)),bL (aXF fv fk l) ρ' ids'=bL l ρ ids
 | []=>rfl
 | p :: l=>by
  have ih:=aV7 l
  simp only [bL] at ih
  simp only [aXF,bL,List.map_cons,List.cons.injEq]
  exact ⟨by rw [hk,bDN hv hk],ih⟩
end

/-! ### what is known of a function -/
structure aP where
 fid:Nat
 Γ:List Ty
 args:List SV
 sto:List (Nat×OB):=[]
 nk:Nat:=0
 nr:Nat:=0
 Δ:List Ty
 res:SV
 sto':List (Nat×OB):=[]
 nk':Nat:=0
 f:Nat→Vals Γ→Option (Vals Δ)

structure aE (P:Program) (g:aP) (fuel:Nat):Prop where
 fn:∃ fn,P.funcs[g.fid]?=some fn∧fn.body.isNone=false∧(fn.name == "runtime.NumGoroutine")=false
 ok:∀ (ids:jI) (x:Vals g.Γ) (y:Vals g.Δ),g.f fuel x=some y→lO P g.fid (bQ (hQ g.Γ x) ids g.args) (bL g.sto (hQ g.Γ x) ids)
  (fun av s=>∃ ids',(∀ k,k<g.nk→ids' k=ids k)∧av=aL (hQ g.Δ y) ids' g.res∧s=bL g.sto' (hQ g.Δ y) ids')

def bFx (nk:Nat) (K:xP):Nat→Bool
 | 0=>true
 | n+1=>(match lk K n with
  | some key=>Nat.blt key nk
  | none=>false) && bFx nk K n
theorem bBy {nk:Nat} {K:xP}:∀ {n k:Nat},bFx nk K n=true→k<n→∃ key,lk K k=some key∧key<nk
 | 0,_,_,h=>by omega
 | n+1,k,h,hk=>by
  simp only [bFx,Bool.and_eq_true] at h
  by_cases e:k=n
  ·subst e
   have h1:=h.1
   split at h1
   ·rename_i key hl; exact ⟨key,hl,mP h1⟩
   ·cases h1
  ·exact bBy h.2 (by omega)

def aLO (as:List SV) (fid:Nat) (sto:List (Nat×OB)):List aP→Option (aP×Mt)
 | []=>none
 | g :: l=>if Nat.beq g.fid fid then match mt g.args as g.sto g.Γ.length [] sto with
  | some m=>some (g,m)
  | none=>aLO as fid sto l
  else aLO as fid sto l
theorem aN9 {as:List SV} {fid:Nat} {sto:List (Nat×OB)}:∀ {env:List aP} {g:aP} {m:Mt},aLO as fid sto env=some (g,m)→g∈env∧g.fid=fid∧mt g.args as g.sto g.Γ.length [] sto=some m
 | [],_,_,h=>by simp [aLO] at h
 | g' :: l,g,m,h=>by
  unfold aLO at h
  split at h
  ·rename_i hb
   split at h
   ·rename_i m' hm
    cases h
    exact ⟨List.mem_cons_self,Nat.eq_of_beq_eq_true hb,hm⟩
   ·obtain ⟨h1,h2⟩:=aN9 h; exact ⟨List.mem_cons_of_mem _ h1,h2⟩
  ·obtain ⟨h1,h2⟩:=aN9 h; exact ⟨List.mem_cons_of_mem _ h1,h2⟩

def bE5 (K:xP) (nkIn nk:Nat) (k:Nat):Nat:=if Nat.blt k nkIn then (match lk K k with
 | some key=>key
 | none=>0) else nk+(k - nkIn)

section
variable {P:Program} {T:TT} {R:Type}

def HOk (P:Program) (o:Oper) (st:St) (ρ:bW) (ids:jI) (kk:SV→St→bW→Option R) (r:R):Prop :=
 ∃ Rr:AV→aN→Prop,sP P o (eA st ρ ids) (bL st.sto ρ ids) Rr ∧
  ∀ av s',Rr av s'→∃ sv st' ρ' ids',kk sv st' ρ'=some r∧av=aL ρ' ids' sv∧s'=bL st'.sto ρ' ids'∧eA st' ρ' ids'=eA st ρ ids ∧
   (∀ key ob,lk st.sto key=some ob→lk st'.sto key=some ob→(ids' key,dQ ρ' ids' ob)=(ids key,dQ ρ ids ob))∧jI.agree st.nk ids ids'∧st.nk≤st'.nk

def bC2 (env:List aP) (fuel:Nat) (st:St) (ρ:bW) (fid:Nat) (as:List SV) (kk:SV→St→bW→Option R):Option R :=
 match aLO as fid st.sto env with
 | none=>none
 | some (g,m)=>(match (bFx st.nk m.K g.nk && (st.ok && aJF st.nv st.nk m.rest):Bool) with
  | true=>(vals m.sto ρ m.V 0 g.Γ).bind fun x=>(g.f fuel x).bind fun y =>
    kk (aBy (fun i=>st.nv+i) (bE5 m.K g.nk st.nk) g.res)
     { live:=st.live,sto:=aXF (fun i=>st.nv+i) (bE5 m.K g.nk st.nk) g.sto'++m.rest,nv:=st.nv+g.Δ.length,nk:=st.nk+(g.nk' - g.nk) } (vI ρ st.nv (dyns g.Δ y))
  | false=>none)

theorem sE {nv nk:Nat}:∀ {l:List (Nat×OB)} {k:Nat} {o:OB},aJF nv nk l=true→lk l k=some o→k<nk∧OB.ok nv nk o=true
 | [],_,_,_,h=>by simp [lk] at h
 | p :: l,k,o,h,e=>by
  simp only [aJF,Bool.and_eq_true] at h
  unfold lk at e
  by_cases ek:k=p.1
  ·subst ek
   rw [eB,if_pos rfl] at e
   cases e
   exact ⟨mP h.1.1,h.1.2⟩
  ·rw [fN ek] at e
   exact sE h.2 e

theorem bDW {env:List aP} {fuel:Nat} (henv:∀ g∈env,aE P g fuel) {o:Oper} {st:St} {ρ:bW} {ids:jI} {kk:SV→St→bW→Option R} {r:R}
  {f:Operand} {args:Array Operand} {tys:Array TypeId} {fid:Nat} {first caps as:List SV} (ho:o.op=.call ⟨.value f,args,tys⟩) (hf:hP st.live f=some (.fn fid first caps)) (ha:aWO st.live args.toList=some as)
  (h:bC2 env fuel st ρ fid (first++as++caps) kk=some r):HOk P o st ρ ids kk r:=by
 unfold bC2 at h
 split at h
 ·cases h
 ·rename_i g m hfind
  obtain ⟨hg,hfid,hm⟩:=aN9 hfind
  split at h
  ·rename_i hb
   simp only [Bool.and_eq_true] at hb
   obtain ⟨hkall,hok,hrok⟩:=hb
   simp only [St.ok,Bool.and_eq_true] at hok
   obtain ⟨x,hx,h⟩:=aM h
   obtain ⟨y,hy,h⟩:=aM h
   obtain ⟨hchk,hasg,⟨used,hsto⟩,ks,hfrz⟩:=bCN hm
   obtain ⟨⟨fn,hfn,hbody,hname⟩,hcall⟩:=henv g hg
   have hc:=hcall (aIQ m.K ids) x y hy
   subst hfid
   have hshift:iQ (fun _=>.any) (bL st.sto ρ ids) (fun _=>.any) (bL m.sto ρ ids):=by
    rw [hfrz]
    have:=iQ.frzL (t:=fun _=>.any) (ρ:=ρ) (ids:=ids) ks st.sto []
    simpa using this
   refine ⟨_,sP.shift hshift (bBL (sm:=bL g.sto (hQ g.Γ x) (aIQ m.K ids)) (r:=bL m.rest ρ ids) (args':=bQ (hQ g.Γ x) (aIQ m.K ids) g.args) (xs:=bQ ρ ids (first++as++caps)) (fid:=g.fid) (first:=bQ ρ ids first) (caps:=bQ ρ ids caps)
    ho (by rw [bB hf]; simp only [aL]) hfn hbody hname hc ?_ ?_ ?_),?_⟩
   ·unfold aTv
    rw [aLV ha]
    simp only [cH,List.map_append]
   ·intro w mu i vs hr hvl
    obtain ⟨q1,q2,q3,q4,q5⟩:=aTe hr hx hasg hsto
    exact ⟨q3,q2 _ _ hchk _ hvl⟩
   ·intro p hp
    -- the numbers are the same; they do not hang on the world
    obtain ⟨h1,h2⟩:=aQZ hsto
    have hfit:∀ (l u:List (Nat×OB)),Fits m.V m.K l u→∀ p∈bL l (hQ g.Γ x) (aIQ m.K ids),∃ q∈bL u ρ ids,q.1=p.1:=by
     intro l
     induction l with
     | nil=>intro u _ p hp; cases hp
     | cons c l ih =>
      intro u hu p hp
      obtain ⟨b,bs,rfl,k1,k2,k3⟩:=hu
      simp only [bL,List.map_cons,List.mem_cons] at hp
      rcases hp with rfl | hp
      ·exact ⟨(ids b.1,dQ ρ ids b.2),by simp [bL],(aPK k1).symm⟩
      ·obtain ⟨q,hq,e⟩:=ih bs k3 p hp
       exact ⟨q,by simp only [bL,List.map_cons]; exact List.mem_cons_of_mem _ hq,e⟩
    have hperm:(bL m.sto ρ ids).Perm (bL used ρ ids++bL m.rest ρ ids):=by
     unfold bL; rw [← List.map_append]; exact h1.map _
    rcases List.mem_append.1 hp with hp | hp
    ·obtain ⟨q,hq,e⟩:=hfit _ _ h2 p hp
     exact ⟨q,hperm.mem_iff.2 (List.mem_append_left _ hq),e⟩
    ·exact ⟨p,hperm.mem_iff.2 (List.mem_append_right _ hp),rfl⟩
   ·rintro av s' ⟨z1,⟨idsS,hids,rfl,rfl⟩,rfl⟩
    let ids'':jI:=fun key=>if key<st.nk then ids key else idsS (g.nk+(key - st.nk))
    have hagI:jI.agree st.nk ids ids'':=fun j hj=>by simp [ids'',hj]
    have hagR:=jC ρ st.nv (dyns g.Δ y)
    have hv:∀ j,vI ρ st.nv (dyns g.Δ y) (st.nv+j)=hQ g.Δ y j:=fun j=>by
     unfold vI hQ
     rw [if_neg (by simp)]
     congr 1
     omega
    have hk:∀ k,ids'' (bE5 m.K g.nk st.nk k)=idsS k:=fun k=>by
     unfold bE5
     by_cases hlt:k<g.nk
     ·obtain ⟨key,hkey,hlt2⟩:=bBy hkall hlt
      rw [if_pos (by simpa using hlt),hkey]
      simp only [ids'',hlt2,if_true]
      rw [hids k hlt,aPK hkey]
     ·rw [if_neg (by simpa using hlt)]
      simp only [ids'']
      rw [if_neg (by omega)]
      congr 1
      omega
    refine ⟨_,_,_,ids'',h,(aXU hv hk g.res).symm,?_,rB (st:=st) hagR hagI hok.1,?_,hagI,Nat.le_add_right _ _⟩
    ·simp only
     have e1:=aV7 hv hk g.sto'
     have e2:=pG hagR hagI hrok
     unfold bL at e1 e2 ⊢
     rw [List.map_append,e1,e2]
    ·intro key ob h1 h2
     obtain ⟨q1,q2⟩:=sE hok.2 h1
     rw [hagI key q1,aAz hagR hagI q2]
  ·cases h
end
end Go.Sx

