/- Joined texts: Sx1, Sx2, Sx3, Sx4, Sx5, Sx6. -/
import Derived.Test.YtjhfgiieicloeaaGreatDoorGb
import Derived.Laws.Cover4
import Derived.Laws.BytesString
/- The executor, part 1: typed values, values seen deep, what they stand for. -/
namespace Go.Sx
open Go Go.Am

inductive Ty where
 | int (k:IntKind) | bool | str | tree
 | list (full:Bool) (e:Ty)
 | pair (a b:Ty)
 | one (a:Ty)
 deriving DecidableEq

@[reducible] def Ty.D:Ty→Type
 | .int _=>Int
 | .bool=>Bool
 | .str=>List UInt8
 | .tree=>Tr
 | .list _ e=>List e.D
 | .pair a b=>a.D×b.D
 | .one a=>a.D

def Ty.n:Ty→Nat
 | .pair a b=>a.n+b.n
 | .one a=>a.n
 | _=>1

def iteS {α:Type} (b:Bool) (x y:α):α:=match b with
 | true=>x
 | false=>y
theorem aWA {α:Type} (b:Bool) (x y:α):iteS b x y=if b=true then x else y:=by cases b <;> rfl
@[simp] theorem iteS_true {α:Type} (x y:α):iteS true x y=x:=rfl
@[simp] theorem iteS_false {α:Type} (x y:α):iteS false x y=y:=rfl

def Ty.dflt:(τ:Ty)→τ.D
 | .int _=>(0:Int)
 | .bool=>false
 | .str=>[]
 | .tree=>.nil
 | .list _ _=>[]
 | .pair a b=>(a.dflt,b.dflt)
 | .one a=>a.dflt

def Ty.cells:(τ:Ty)→τ.D→List AV
 | .int k,x=>[.lit (.int k x)]
 | .bool,x=>[.b x]
 | .str,x=>[.s x]
 | .tree,x=>[.tree x]
 | .list f e,x=>[.slc (x.flatMap e.cells) x.length f]
 | .pair a b,x=>a.cells x.1++b.cells x.2
 | .one a,x=>a.cells x

def Ty.av:(τ:Ty)→τ.D→AV
 | .int k,x=>.lit (.int k x)
 | .bool,x=>.b x
 | .str,x=>.s x
 | .tree,x=>.tree x
 | .list f e,x=>.slc (x.flatMap e.cells) x.length f
 | .pair a b,x=>.agg (a.cells x.1++b.cells x.2)
 | .one a,x=>.agg (a.cells x)

theorem Ty.cells_len:∀ (τ:Ty) (x:τ.D),(τ.cells x).length=τ.n
 | .int _,_=>rfl
 | .bool,_=>rfl
 | .str,_=>rfl
 | .tree,_=>rfl
 | .list _ _,_=>rfl
 | .pair a b,x=>by simp [Ty.cells,Ty.n,Ty.cells_len a,Ty.cells_len b]
 | .one a,x=>Ty.cells_len a x

abbrev Dyn:=Sigma Ty.D
def Dyn.av (d:Dyn):AV:=d.1.av d.2
def vG:Dyn→Nat
 | ⟨.list _ _,l⟩=>l.length
 | ⟨.str,l⟩=>l.length
 | _=>0
abbrev Dyn.dflt:Dyn:=⟨.bool,false⟩

def Ty.flat:(τ:Ty)→τ.D→List Dyn
 | .pair a b,x=>a.flat x.1++b.flat x.2
 | .one a,x=>a.flat x
 | .int k,x=>[⟨.int k,x⟩]
 | .bool,x=>[⟨.bool,x⟩]
 | .str,x=>[⟨.str,x⟩]
 | .tree,x=>[⟨.tree,x⟩]
 | .list f e,x=>[⟨.list f e,x⟩]
theorem Ty.flat_cells:∀ (τ:Ty) (x:τ.D),τ.cells x=(τ.flat x).map Dyn.av
 | .int _,_=>rfl
 | .bool,_=>rfl
 | .str,_=>rfl
 | .tree,_=>rfl
 | .list _ _,_=>rfl
 | .pair a b,x=>by simp [Ty.cells,Ty.flat,Ty.flat_cells a,Ty.flat_cells b]
 | .one a,x=>Ty.flat_cells a x

inductive SV where
 | var (j:Nat)
 | len (j:Nat)
 | int (k:IntKind) (n:Int)
 | bool (b:Bool)
 | str (l:List UInt8)
 | nilp | nils | nilf | nilm | und | any
 | ptr (cs:List SV)
 | slc (cs:List SV) (n:Nat) (full:Bool)
 | ref (key off:Nat)
 | elt (key sz:Nat) (i:SV)
 | row (key j:Nat)
 | fn (f:Nat) (first caps:List SV)
 | mp (key:Nat)
 | it (key:Nat)
 | agg (cs:List SV)
 | tup (cs:List SV)

abbrev bX:=Nat→Dyn
abbrev jP:=Nat→Nat

def intOf (ρ:bX):SV→Option Int
 | .int _ n=>some n
 | .len j=>some ((vG (ρ j):Nat):Int)
 | .var j=>match ρ j with
  | ⟨.int _,n⟩=>some n
  | _=>none
 | _=>none

mutual
def aL (ρ:bX) (ids:jP):SV→AV
 | .var j=>(ρ j).av
 | .len j=>.i ((vG (ρ j):Nat):Int)
 | .int k n=>.lit (.int k n)
 | .bool b=>.b b
 | .str l=>.s l
 | .nilp=>.nil
 | .nils=>.lit (.slice none 0 0)
 | .nilf=>.lit .nilFunc
 | .nilm=>.lit (.map none)
 | .und=>.lit undef
 | .any=>.any
 | .ptr cs=>.ptr (bQ ρ ids cs)
 | .slc cs n f=>.slc (bQ ρ ids cs) n f
 | .ref key off=>.ref (ids key) off
 | .elt key sz i=>match intOf ρ i with
  | some n=>.ref (ids key) (n.toNat * sz)
  | none=>.any
 | .row key j=>.row (ids key) (vG (ρ j))
 | .fn f a b=>.fn (.func f) (bQ ρ ids a) (bQ ρ ids b)
 | .mp key=>.mp (ids key)
 | .it key=>.it (ids key)
 | .agg cs=>.agg (bQ ρ ids cs)
 | .tup cs=>.tup (bQ ρ ids cs)
def bQ (ρ:bX) (ids:jP):List SV→List AV
 | []=>[]
 | x :: xs=>aL ρ ids x :: bQ ρ ids xs
end

theorem cH (ρ:bX) (ids:jP):∀ l,bQ ρ ids l=l.map (aL ρ ids)
 | []=>by simp [bQ]
 | x :: xs=>by simp [bQ,cH ρ ids xs]

/-! ### equality of deep values -/
def keq:IntKind→IntKind→Bool
 | .i8,.i8 | .i16,.i16 | .i32,.i32 | .i64,.i64 | .u8,.u8 | .u16,.u16 | .u32,.u32 | .u64,.u64=>true
 | _,_=>false
theorem aF1 {a b:IntKind} (h:keq a b=true):a=b:=by cases a <;> cases b <;> first | rfl | cases h

def ieq:Int→Int→Bool
 | .ofNat a,.ofNat b=>Nat.beq a b
 | .negSucc a,.negSucc b=>Nat.beq a b
 | _,_=>false
theorem bCr {a b:Int} (h:ieq a b=true):a=b:=by
 cases a <;> cases b <;> simp only [ieq] at h <;> first | (rw [Nat.eq_of_beq_eq_true h]) | cases h

def aYx:Bool→Bool→Bool
 | true,true | false,false=>true
 | _,_=>false
theorem aIL {a b:Bool} (h:aYx a b=true):a=b:=by cases a <;> cases b <;> first | rfl | cases h

def aIO:List UInt8→List UInt8→Bool
 | [],[]=>true
 | x :: xs,y :: ys=>Nat.beq x.toNat y.toNat && aIO xs ys
 | _,_=>false
theorem aM9:∀ {a b:List UInt8},aIO a b=true→a=b
 | [],[],_=>rfl
 | [],_ :: _,h=>by simp [aIO] at h
 | _ :: _,[],h=>by simp [aIO] at h
 | x :: xs,y :: ys,h=>by
  simp only [aIO,Bool.and_eq_true] at h
  rw [aM9 h.2,UInt8.toNat_inj.1 (Nat.eq_of_beq_eq_true h.1)]

mutual
def SV.beq:SV→SV→Bool
 | .var a,.var b | .len a,.len b | .mp a,.mp b | .it a,.it b=>Nat.beq a b
 | .int k n,.int j m=>keq k j && ieq n m
 | .bool a,.bool b=>aYx a b
 | .str a,.str b=>aIO a b
 | .nilp,.nilp | .nils,.nils | .nilf,.nilf | .nilm,.nilm | .und,.und | .any,.any=>true
 | .ptr a,.ptr b | .agg a,.agg b | .tup a,.tup b=>SV.beqs a b
 | .slc a n f,.slc b m g=>SV.beqs a b && Nat.beq n m && aYx f g
 | .ref a n,.ref b m | .row a n,.row b m=>Nat.beq a b && Nat.beq n m
 | .elt a n x,.elt b m y=>Nat.beq a b && Nat.beq n m && SV.beq x y
 | .fn f a b,.fn g c d=>Nat.beq f g && SV.beqs a c && SV.beqs b d
 | _,_=>false
def SV.beqs:List SV→List SV→Bool
 | [],[]=>true
 | x :: xs,y :: ys=>SV.beq x y && SV.beqs xs ys
 | _,_=>false
end

mutual
theorem SV.beq_eq:∀ (a b:SV),SV.beq a b=true→a=b
 | .var a,b,h=>by cases b <;> simp only [SV.beq] at h <;> first | (cases h; done) | (rw [Nat.eq_of_beq_eq_true h])
 | .len a,b,h=>by cases b <;> simp only [SV.beq] at h <;> first | (cases h; done) | (rw [Nat.eq_of_beq_eq_true h])
 | .mp a,b,h=>by cases b <;> simp only [SV.beq] at h <;> first | (cases h; done) | (rw [Nat.eq_of_beq_eq_true h])
 | .it a,b,h=>by cases b <;> simp only [SV.beq] at h <;> first | (cases h; done) | (rw [Nat.eq_of_beq_eq_true h])
 | .int k n,b,h=>by
  cases b <;> simp only [SV.beq] at h <;> first | (cases h; done) | skip
  simp only [Bool.and_eq_true] at h
  rw [aF1 h.1,bCr h.2]
 | .bool a,b,h=>by cases b <;> simp only [SV.beq] at h <;> first | (cases h; done) | (rw [aIL h])
 | .str a,b,h=>by cases b <;> simp only [SV.beq] at h <;> first | (cases h; done) | (rw [aM9 h])
 | .nilp,b,h=>by cases b <;> simp only [SV.beq] at h <;> first | (cases h; done) | rfl
 | .nils,b,h=>by cases b <;> simp only [SV.beq] at h <;> first | (cases h; done) | rfl
 | .nilf,b,h=>by cases b <;> simp only [SV.beq] at h <;> first | (cases h; done) | rfl
 | .nilm,b,h=>by cases b <;> simp only [SV.beq] at h <;> first | (cases h; done) | rfl
 | .und,b,h=>by cases b <;> simp only [SV.beq] at h <;> first | (cases h; done) | rfl
 | .any,b,h=>by cases b <;> simp only [SV.beq] at h <;> first | (cases h; done) | rfl
 | .ptr a,b,h=>by cases b <;> simp only [SV.beq] at h <;> first | (cases h; done) | (rw [SV.beqs_eq _ _ h])
 | .agg a,b,h=>by cases b <;> simp only [SV.beq] at h <;> first | (cases h; done) | (rw [SV.beqs_eq _ _ h])
 | .tup a,b,h=>by cases b <;> simp only [SV.beq] at h <;> first | (cases h; done) | (rw [SV.beqs_eq _ _ h])
 | .slc a n f,b,h=>by
  cases b <;> simp only [SV.beq] at h <;> first | (cases h; done) | skip
  simp only [Bool.and_eq_true] at h
  rw [SV.beqs_eq _ _ h.1.1,Nat.eq_of_beq_eq_true h.1.2,aIL h.2]
 | .ref a n,b,h=>by
  cases b <;> simp only [SV.beq] at h <;> first | (cases h; done) | skip
  simp only [Bool.and_eq_true] at h
  rw [Nat.eq_of_beq_eq_true h.1,Nat.eq_of_beq_eq_true h.2]
 | .row a n,b,h=>by
  cases b <;> simp only [SV.beq] at h <;> first | (cases h; done) | skip
  simp only [Bool.and_eq_true] at h
  rw [Nat.eq_of_beq_eq_true h.1,Nat.eq_of_beq_eq_true h.2]
 | .elt a n x,b,h=>by
  cases b <;> simp only [SV.beq] at h <;> first | (cases h; done) | skip
  simp only [Bool.and_eq_true] at h
  rw [Nat.eq_of_beq_eq_true h.1.1,Nat.eq_of_beq_eq_true h.1.2,SV.beq_eq _ _ h.2]
 | .fn f a b',b,h=>by
  cases b <;> simp only [SV.beq] at h <;> first | (cases h; done) | skip
  simp only [Bool.and_eq_true] at h
  rw [Nat.eq_of_beq_eq_true h.1.1,SV.beqs_eq _ _ h.1.2,SV.beqs_eq _ _ h.2]
theorem SV.beqs_eq:∀ (a b:List SV),SV.beqs a b=true→a=b
 | [],b,h=>by cases b <;> simp only [SV.beqs] at h <;> first | rfl | cases h
 | x :: xs,b,h=>by
  cases b <;> simp only [SV.beqs] at h <;> first | (cases h; done) | skip
  simp only [Bool.and_eq_true] at h
  rw [SV.beq_eq _ _ h.1,SV.beqs_eq _ _ h.2]
end

/-! ### what is spoken of is there -/
mutual
def SV.ok (nv nk:Nat):SV→Bool
 | .var j | .len j=>Nat.blt j nv
 | .ptr cs | .agg cs | .tup cs | .slc cs _ _=>SV.oks nv nk cs
 | .ref key _ | .mp key | .it key=>Nat.blt key nk
 | .elt key _ i=>Nat.blt key nk && SV.ok nv nk i
 | .row key j=>Nat.blt key nk && Nat.blt j nv
 | .fn _ a b=>SV.oks nv nk a && SV.oks nv nk b
 | _=>true
def SV.oks (nv nk:Nat):List SV→Bool
 | []=>true
 | x :: xs=>SV.ok nv nk x && SV.oks nv nk xs
end

def bX.agree (nv:Nat) (ρ ρ':bX):Prop:=∀ j,j<nv→ρ' j=ρ j
def jP.agree (nk:Nat) (i i':jP):Prop:=∀ j,j<nk→i' j=i j

theorem mX {a b:Nat} (h:Nat.blt a b=true):a<b:=by simpa using h

theorem aX4 {nv nk:Nat} {ρ ρ':bX} (hr:bX.agree nv ρ ρ'):∀ {x:SV},SV.ok nv nk x=true→intOf ρ' x=intOf ρ x:=by
 intro x h
 cases x <;> simp only [SV.ok] at h <;> simp only [intOf]
 ·rw [hr _ (mX h)]
 ·rw [hr _ (mX h)]

mutual
theorem aNg {nv nk:Nat} {ρ ρ':bX} {i i':jP} (hr:bX.agree nv ρ ρ') (hi:jP.agree nk i i'):∀ (x:SV),SV.ok nv nk x=true→aL ρ' i' x=aL ρ i x
 | .var j,h=>by simp only [SV.ok] at h; simp only [aL]; rw [hr j (mX h)]
 | .len j,h=>by simp only [SV.ok] at h; simp only [aL]; rw [hr j (mX h)]
 | .int _ _,_ | .bool _,_ | .str _,_ | .nilp,_ | .nils,_ | .nilf,_ | .nilm,_ | .und,_ | .any,_=>by simp only [aL]
 | .ptr cs,h=>by simp only [SV.ok] at h; simp only [aL]; rw [oU hr hi cs h]
 | .agg cs,h=>by simp only [SV.ok] at h; simp only [aL]; rw [oU hr hi cs h]
 | .tup cs,h=>by simp only [SV.ok] at h; simp only [aL]; rw [oU hr hi cs h]
 | .slc cs _ _,h=>by simp only [SV.ok] at h; simp only [aL]; rw [oU hr hi cs h]
 | .ref k _,h=>by simp only [SV.ok] at h; simp only [aL]; rw [hi k (mX h)]
 | .mp k,h=>by simp only [SV.ok] at h; simp only [aL]; rw [hi k (mX h)]
 | .it k,h=>by simp only [SV.ok] at h; simp only [aL]; rw [hi k (mX h)]
 | .elt k _ i,h=>by
  simp only [SV.ok,Bool.and_eq_true] at h
  simp only [aL]
  rw [aX4 hr h.2,hi k (mX h.1)]
 | .row k j,h=>by
  simp only [SV.ok,Bool.and_eq_true] at h
  simp only [aL]
  rw [hr j (mX h.2),hi k (mX h.1)]
 | .fn f a b,h=>by
  simp only [SV.ok,Bool.and_eq_true] at h
  simp only [aL]
  rw [oU hr hi a h.1,oU hr hi b h.2]
theorem oU {nv nk:Nat} {ρ ρ':bX} {i i':jP} (hr:bX.agree nv ρ ρ') (hi:jP.agree nk i i'):∀ (x:List SV),SV.oks nv nk x=true→bQ ρ' i' x=bQ ρ i x
 | [],_=>rfl
 | x :: xs,h=>by
  simp only [SV.oks,Bool.and_eq_true] at h
  simp only [bQ]
  rw [aNg hr hi x h.1,oU hr hi xs h.2]
end

/-! ### objects, states -/
inductive OB where
 | cells (e sz:Nat) (cs:List SV) (fz:Bool)
 | list (e j:Nat) (fz:Option Nat)
 | map (j:Nat)
 | iter (j p:Nat)
 | glob (b j:Nat)

def OB.beq:OB→OB→Bool
 | .cells e n cs f,.cells e' n' cs' f'=>Nat.beq e e' && Nat.beq n n' && SV.beqs cs cs' && aYx f f'
 | .list e j none,.list e' j' none=>Nat.beq e e' && Nat.beq j j'
 | .list e j (some k),.list e' j' (some k')=>Nat.beq e e' && Nat.beq j j' && Nat.beq k k'
 | .map j,.map j'=>Nat.beq j j'
 | .iter j p,.iter j' p'=>Nat.beq j j' && Nat.beq p p'
 | .glob b j,.glob b' j'=>Nat.beq b b' && Nat.beq j j'
 | _,_=>false
theorem OB.beq_eq {a b:OB} (h:OB.beq a b=true):a=b:=by
 unfold OB.beq at h
 split at h <;> (try simp only [Bool.and_eq_true] at h)
 ·rw [Nat.eq_of_beq_eq_true h.1.1.1,Nat.eq_of_beq_eq_true h.1.1.2,SV.beqs_eq _ _ h.1.2,aIL h.2]
 ·rw [Nat.eq_of_beq_eq_true h.1,Nat.eq_of_beq_eq_true h.2]
 ·rw [Nat.eq_of_beq_eq_true h.1.1,Nat.eq_of_beq_eq_true h.1.2,Nat.eq_of_beq_eq_true h.2]
 ·rw [Nat.eq_of_beq_eq_true h]
 ·rw [Nat.eq_of_beq_eq_true h.1,Nat.eq_of_beq_eq_true h.2]
 ·rw [Nat.eq_of_beq_eq_true h.1,Nat.eq_of_beq_eq_true h.2]
 ·cases h

def OB.ok (nv nk:Nat):OB→Bool
 | .cells _ _ cs _=>SV.oks nv nk cs
 | .list _ j none=>Nat.blt j nv
 | .list _ j (some k)=>Nat.blt j nv && Nat.blt k nv
 | .map j=>Nat.blt j nv
 | .iter j p=>Nat.blt j nv && Nat.blt p nv
 | .glob _ j=>Nat.blt j nv

def aCb (ρ:bX) (n:Nat):Option Nat→Nat
 | none=>0
 | some k=>vG (ρ k) * n

def mapOf:Dyn→List (Value×AV)
 | ⟨.list _ (.pair .str τ),l⟩=>l.map fun p=>(.string ⟨p.1.toArray⟩,τ.av p.2)
 | _=>[]

def dU (ρ:bX) (ids:jP):OB→Ob
 | .cells e n cs f=>.row e n (bQ ρ ids cs) (if f then cs.length else 0)
 | .list e j fz=>match ρ j with
  | ⟨.list _ τ,l⟩=>.row e τ.n (l.flatMap τ.cells) (aCb ρ τ.n fz)
  | _=>.iter .empty 0
 | .map j=>.map (mapOf (ρ j))
 | .iter j p=>match ρ j,ρ p with
  | ⟨.str,l⟩,⟨.int _,n⟩=>.iter ⟨l.toArray⟩ n.toNat
  | _,_=>.iter .empty 0
 | .glob b j=>match ρ j with
  | ⟨.list _ τ,l⟩=>.glob b (l.flatMap τ.cells)
  | _=>.iter .empty 0

theorem aAu {nv nk:Nat} {ρ ρ':bX} {i i':jP} (hr:bX.agree nv ρ ρ') (hi:jP.agree nk i i') {x:OB} (h:OB.ok nv nk x=true):dU ρ' i' x=dU ρ i x:=by
 cases x with
 | cells e n cs f=>simp only [OB.ok] at h; simp only [dU]; rw [oU hr hi cs h]
 | list e j fz =>
  cases fz with
  | none =>
   simp only [OB.ok] at h
   simp only [dU]
   rw [hr j (mX h)]
   rfl
  | some k =>
   simp only [OB.ok,Bool.and_eq_true] at h
   simp only [dU]
   rw [hr j (mX h.1)]
   simp only [aCb]
   rw [hr k (mX h.2)]
 | map j=>simp only [OB.ok] at h; simp only [dU]; rw [hr j (mX h)]
 | iter j p =>
  simp only [OB.ok,Bool.and_eq_true] at h
  simp only [dU]
  rw [hr j (mX h.1),hr p (mX h.2)]
 | glob b j=>simp only [OB.ok] at h; simp only [dU]; rw [hr j (mX h)]

structure St where
 live:List (Nat×SV)
 sto:List (Nat×OB)
 nv:Nat
 nk:Nat

def eC (st:St) (ρ:bX) (ids:jP):mI:=fun k=>match lk st.live k with
 | some x=>aL ρ ids x
 | none=>.any
def bL (l:List (Nat×OB)) (ρ:bX) (ids:jP):aN:=l.map fun p=>(ids p.1,dU ρ ids p.2)

def aNa (nv nk:Nat):List (Nat×SV)→Bool
 | []=>true
 | p :: l=>SV.ok nv nk p.2 && aNa nv nk l
def aJh (nv nk:Nat):List (Nat×OB)→Bool
 | []=>true
 | p :: l=>Nat.blt p.1 nk && OB.ok nv nk p.2 && aJh nv nk l
def St.ok (st:St):Bool:=aNa st.nv st.nk st.live && aJh st.nv st.nk st.sto

theorem aPT {nv nk:Nat}:∀ {l:List (Nat×SV)} {k:Nat} {x:SV},aNa nv nk l=true→lk l k=some x→SV.ok nv nk x=true
 | [],_,_,_,h=>by simp [lk] at h
 | p :: l,k,x,h,e=>by
  simp only [aNa,Bool.and_eq_true] at h
  unfold lk at e
  split at e
  ·cases e; exact h.1
  ·exact aPT h.2 e

theorem pK {nv nk:Nat} {ρ ρ':bX} {i i':jP} (hr:bX.agree nv ρ ρ') (hi:jP.agree nk i i'):∀ {l:List (Nat×OB)},aJh nv nk l=true→bL l ρ' i'=bL l ρ i
 | [],_=>rfl
 | p :: l,h=>by
  simp only [aJh,Bool.and_eq_true] at h
  simp only [bL,List.map_cons,List.cons.injEq]
  refine ⟨?_,pK hr hi h.2⟩
  rw [hi p.1 (mX h.1.1),aAu hr hi h.1.2]

theorem rK {st:St} {ρ ρ':bX} {i i':jP} (hr:bX.agree st.nv ρ ρ') (hi:jP.agree st.nk i i') (h:aNa st.nv st.nk st.live=true):eC st ρ' i'=eC st ρ i:=by
 funext k
 unfold eC
 cases e:lk st.live k with
 | none=>rfl
 | some x=>exact aNg hr hi x (aPT h e)

def vH (ρ:bX) (nv:Nat) (ds:List Dyn):bX:=fun j=>if Nat.blt j nv then ρ j else ds.getD (j - nv) .dflt
theorem jK (ρ:bX) (nv:Nat) (ds:List Dyn):bX.agree nv ρ (vH ρ nv ds):=fun j hj=>by
 unfold vH
 rw [if_pos (by simpa using hj)]
theorem aBN (ρ:bX) (nv:Nat) (ds:List Dyn) (k:Nat) (d:Dyn) (h:ds[k]?=some d):vH ρ nv ds (nv+k)=d:=by
 unfold vH
 rw [if_neg (by simp)]
 simp [h]
def upd (ρ:bX) (j:Nat) (d:Dyn):bX:=fun k=>if Nat.beq k j then d else ρ k
theorem upd_same {ρ:bX} {j:Nat} {d:Dyn} (h:ρ j=d):upd ρ j d=ρ:=by
 funext k
 unfold upd
 by_cases e:k=j
 ·subst e; rw [eE,if_pos rfl]; exact h.symm
 ·rw [fW e]; rfl

end Go.Sx

/- The executor, part 2: a deep value as a typed one; sealing; patterns. -/
namespace Go.Sx
open Go Go.Am

def Ty.beq:Ty→Ty→Bool
 | .int a,.int b=>keq a b
 | .bool,.bool | .str,.str | .tree,.tree=>true
 | .list f a,.list g b=>aYx f g && Ty.beq a b
 | .pair a b,.pair c d=>Ty.beq a c && Ty.beq b d
 | .one a,.one b=>Ty.beq a b
 | _,_=>false
theorem Ty.beq_eq:∀ {a b:Ty},Ty.beq a b=true→a=b
 | .int a,b,h=>by cases b <;> simp only [Ty.beq] at h <;> first | (cases h; done) | rw [aF1 h]
 | .bool,b,h=>by cases b <;> simp only [Ty.beq] at h <;> first | (cases h; done) | rfl
 | .str,b,h=>by cases b <;> simp only [Ty.beq] at h <;> first | (cases h; done) | rfl
 | .tree,b,h=>by cases b <;> simp only [Ty.beq] at h <;> first | (cases h; done) | rfl
 | .list f a,b,h=>by
  cases b <;> simp only [Ty.beq] at h <;> first | (cases h; done) | skip
  simp only [Bool.and_eq_true] at h
  rw [aIL h.1,Ty.beq_eq h.2]
 | .pair a c,b,h=>by
  cases b <;> simp only [Ty.beq] at h <;> first | (cases h; done) | skip
  simp only [Bool.and_eq_true] at h
  rw [Ty.beq_eq h.1,Ty.beq_eq h.2]
 | .one a,b,h=>by
  cases b <;> simp only [Ty.beq] at h <;> first | (cases h; done) | skip
  rw [Ty.beq_eq h]

def aEc:(τ:Ty)→Dyn→Option τ.D
 | .int k,⟨.int k',n⟩=>if keq k k' then some n else none
 | .bool,⟨.bool,b⟩=>some b
 | .str,⟨.str,l⟩=>some l
 | .tree,⟨.tree,t⟩=>some t
 | .list f e,⟨.list f' e',l⟩=>if f' || !f then (if h:Ty.beq e' e=true then some (Ty.beq_eq h ▸ l) else none) else none
 | _,_=>none

theorem aQG {f:Bool} {e:Ty} {d:Dyn} {x:List e.D} (h:aEc (.list f e) d=some x):∃ f',d=⟨.list f' e,x⟩∧(f=true→f'=true):=by
 obtain ⟨τ,v⟩:=d
 cases τ <;> simp only [aEc] at h <;> first | (cases h; done) | skip
 rename_i f' e'
 split at h
 ·rename_i hf
  split at h
  ·rename_i he
   have he':=Ty.beq_eq he
   subst he'
   cases h
   exact ⟨f',rfl,by cases f <;> cases f' <;> simp_all⟩
  ·cases h
 ·cases h

theorem bBG {τ:Ty} {d:Dyn} {x:τ.D} (h:aEc τ d=some x):jY d.av (τ.av x):=by
 cases τ with
 | list f e =>
  obtain ⟨f',rfl,hf⟩:=aQG h
  cases f with
  | false=>exact jY.slc_full _ _ _
  | true=>rw [hf rfl]; exact jY.refl _
 | int k =>
  obtain ⟨τ,v⟩:=d
  cases τ <;> simp only [aEc] at h <;> first | (cases h; done) | skip
  split at h
  ·rename_i hk; cases h; rw [aF1 hk]; exact jY.refl _
  ·cases h
 | bool=>obtain ⟨τ,v⟩:=d; cases τ <;> simp only [aEc] at h <;> first | (cases h; done) | (cases h; exact jY.refl _)
 | str=>obtain ⟨τ,v⟩:=d; cases τ <;> simp only [aEc] at h <;> first | (cases h; done) | (cases h; exact jY.refl _)
 | tree=>obtain ⟨τ,v⟩:=d; cases τ <;> simp only [aEc] at h <;> first | (cases h; done) | (cases h; exact jY.refl _)
 | pair a b=>obtain ⟨τ,v⟩:=d; cases τ <;> simp only [aEc] at h <;> cases h
 | one a=>obtain ⟨τ,v⟩:=d; cases τ <;> simp only [aEc] at h <;> cases h

/-! ### views -/
end Go.Sx
namespace Go.Am
open Go
section
variable {s:aN}
theorem VW.append:∀ {xs ys us vs:List AV},VW s xs ys→VW s us vs→VW s (xs++us) (ys++vs)
 | [],_,_,_,h,k=>by rw [h]; exact k
 | x :: xs,_,_,_,⟨y,ys,h1,h2,h3⟩,k=>by subst h1; exact ⟨y,_,rfl,h2,VW.append h3 k⟩
theorem VW.vc {w m i} (hr:nY w m i s):∀ {xs ys:List AV} {b o:Nat},VW s xs ys→VC m i xs b o→VC m i ys b o
 | [],_,_,_,h,k=>by rw [h]; exact k
 | x :: xs,_,b,o,⟨y,ys,h1,h2,h3⟩,⟨⟨v,k1,k2⟩,k3⟩=>by subst h1; exact ⟨⟨v,k1,h2 _ _ _ _ hr k2⟩,VW.vc hr h3 k3⟩
theorem VW.length:∀ {xs ys:List AV},VW s xs ys→ys.length=xs.length
 | [],_,h=>by rw [h]
 | x :: xs,_,⟨y,ys,h1,_,h3⟩=>by subst h1; simp [VW.length h3]
theorem eR.ptr {xs ys:List AV} (h:VW s xs ys):eR s (.ptr xs) (.ptr ys):=fun _ _ _ _ hr ⟨b,o,h1,h2⟩=>⟨b,o,h1,h.vc hr h2⟩
theorem eR.agg {xs ys:List AV} (h:VW s xs ys):eR s (.agg xs) (.agg ys):=fun _ _ _ _ hr ⟨vs,h1,h0,h2⟩=>⟨vs,h1,h0,h.vl hr h2⟩
theorem eR.slc {xs ys:List AV} {n:Nat} {f:Bool} (h:VW s xs ys):eR s (.slc xs n f) (.slc ys n f):=by
 intro w m i v hr hv
 rcases hv with ⟨h1,h2,h3⟩ | ⟨b,o,cap,h1,h2,h3,h4,h5⟩
 ·subst h2
  have:ys=[]:=by rw [← List.length_eq_zero_iff,h.length]; rfl
  exact .inl ⟨h1,this,h3⟩
 ·exact .inr ⟨b,o,cap,h1,h2,h3,h4,h.vc hr h5⟩
end
end Go.Am
namespace Go.Sx
open Go Go.Am
theorem bDN {α:Type} (g:α→AV) (l:List α):l.flatMap (fun x=>[g x])=l.map g:=by
 induction l with
 | nil=>rfl
 | cons x l ih=>rw [List.flatMap_cons,ih]; rfl
theorem aVM (l:List Tr):l.flatMap (Ty.cells .tree)=l.map .tree:=bDN AV.tree l

/-! ### a deep value as a typed one -/
def aIz (f:(τ:Ty)→SV→Option τ.D):(τ:Ty)→List SV→Option (τ.D×List SV)
 | .pair a b,cs=>(aIz f a cs).bind fun p=>(aIz f b p.2).bind fun q=>some ((p.1,q.1),q.2)
 | .one a,cs=>aIz f a cs
 | .int k,c :: cs=>(f (.int k) c).bind fun x=>some (x,cs)
 | .bool,c :: cs=>(f .bool c).bind fun x=>some (x,cs)
 | .str,c :: cs=>(f .str c).bind fun x=>some (x,cs)
 | .tree,c :: cs=>(f .tree c).bind fun x=>some (x,cs)
 | .list g e,c :: cs=>(f (.list g e) c).bind fun x=>some (x,cs)
 | _,[]=>none

def aHD (f:(τ:Ty)→SV→Option τ.D) (e:Ty):Nat→List SV→Option (List e.D)
 | 0,[]=>some []
 | 0,_=>none
 | n+1,cs=>(aIz f e cs).bind fun p=>(aHD f e n p.2).bind fun r=>some (p.1 :: r)

def aWf (f:(τ:Ty)→SV→Option τ.D):List SV→Option Tr
 | [a,b,c,d,e]=>(f (.int .i64) a).bind fun k=>(f (.int .i64) b).bind fun n=>(f .str c).bind fun nm=>(f .str d).bind fun mk=>(f (.list false .tree) e).bind fun ks=>some (.node k n nm mk ks)
 | _=>none

def aH5:Nat→List (Nat×OB)→bX→(τ:Ty)→SV→Option τ.D
 | 0,_,_,_,_=>none
 | m+1,sto,ρ,τ,x=>match τ with
  | .int k=>match x with
   | .int k' n=>if keq k k' then some n else none
   | .len j=>if keq k .i64 then some ((vG (ρ j):Nat):Int) else none
   | .var j=>aEc (.int k) (ρ j)
   | _=>none
  | .bool=>match x with
   | .bool b=>some b
   | .var j=>aEc .bool (ρ j)
   | _=>none
  | .str=>match x with
   | .str l=>some l
   | .var j=>aEc .str (ρ j)
   | _=>none
  | .tree=>match x with
   | .var j=>aEc .tree (ρ j)
   | .nilp=>some .nil
   | .ptr cs=>aWf (aH5 m sto ρ) cs
   | .ref key 0=>match lk sto key with
    | some (.cells _ _ cs true)=>aWf (aH5 m sto ρ) cs
    | _=>none
   | _=>none
  | .list f e=>match x with
   | .var j=>aEc (.list f e) (ρ j)
   | .nils=>some []
   | .slc cs n f'=>if f' || !f then aHD (aH5 m sto ρ) e n cs else none
   | .row key j=>if f then none else match lk sto key with
    | some (.list _ j' (some z))=>if Nat.beq j j' && Nat.beq j z then aEc (.list false e) (ρ j) else none
    | some (.cells _ _ _cs true)=>none
    | _=>none
   | _=>none
  | .pair a b=>match x with
   | .agg cs=>(aIz (aH5 m sto ρ) (.pair a b) cs).bind fun p=>match p.2 with
    | []=>some p.1
    | _=>none
   | _=>none
  | .one a=>match x with
   | .agg cs=>(aIz (aH5 m sto ρ) a cs).bind fun p=>match p.2 with
    | []=>some p.1
    | _=>none
   | _=>none

theorem Ty.cells_scalar (τ:Ty) (x:τ.D) (h:∀ a b,τ≠.pair a b) (h2:∀ a,τ≠.one a):τ.cells x=[τ.av x]:=by
 cases τ <;> first | rfl | exact absurd rfl (h _ _) | exact absurd rfl (h2 _)

section
variable {s:aN} {ρ:bX} {ids:jP} {f:(τ:Ty)→SV→Option τ.D}

theorem aEs (hf:∀ τ x v,f τ x=some v→eR s (aL ρ ids x) (τ.av v)):∀ (τ:Ty) (cs:List SV) (v:τ.D) (rest:List SV),aIz f τ cs=some (v,rest) →
  ∃ cs1,cs=cs1++rest∧VW s (bQ ρ ids cs1) (τ.cells v)
 | .pair a b,cs,v,rest,h=>by
  simp only [aIz] at h
  obtain ⟨p,h1,h⟩:=aM h
  obtain ⟨q,h2,h⟩:=aM h
  cases h
  obtain ⟨c1,e1,w1⟩:=aEs hf a cs p.1 p.2 h1
  obtain ⟨c2,e2,w2⟩:=aEs hf b p.2 q.1 q.2 h2
  refine ⟨c1++c2,by rw [e1,e2,List.append_assoc],?_⟩
  rw [cH,List.map_append,← cH,← cH]
  exact VW.append w1 w2
 | .one a,cs,v,rest,h=>by
  simp only [aIz] at h
  exact aEs hf a cs v rest h
 | .int k,c :: cs,v,rest,h=>by
  simp only [aIz] at h
  obtain ⟨x,h1,h⟩:=aM h
  cases h
  exact ⟨[c],rfl,VW.cons (hf _ _ _ h1) VW.nil⟩
 | .bool,c :: cs,v,rest,h=>by
  simp only [aIz] at h
  obtain ⟨x,h1,h⟩:=aM h
  cases h
  exact ⟨[c],rfl,VW.cons (hf _ _ _ h1) VW.nil⟩
 | .str,c :: cs,v,rest,h=>by
  simp only [aIz] at h
  obtain ⟨x,h1,h⟩:=aM h
  cases h
  exact ⟨[c],rfl,VW.cons (hf _ _ _ h1) VW.nil⟩
 | .tree,c :: cs,v,rest,h=>by
  simp only [aIz] at h
  obtain ⟨x,h1,h⟩:=aM h
  cases h
  exact ⟨[c],rfl,VW.cons (hf _ _ _ h1) VW.nil⟩
 | .list g e,c :: cs,v,rest,h=>by
  simp only [aIz] at h
  obtain ⟨x,h1,h⟩:=aM h
  cases h
  exact ⟨[c],rfl,VW.cons (hf _ _ _ h1) VW.nil⟩
 | .int _,[],_,_,h=>by simp [aIz] at h
 | .bool,[],_,_,h=>by simp [aIz] at h
 | .str,[],_,_,h=>by simp [aIz] at h
 | .tree,[],_,_,h=>by simp [aIz] at h
 | .list _ _,[],_,_,h=>by simp [aIz] at h

theorem aMh (hf:∀ τ x v,f τ x=some v→eR s (aL ρ ids x) (τ.av v)) {e:Ty}:∀ (n:Nat) (cs:List SV) (l:List e.D),aHD f e n cs=some l →
  l.length=n∧VW s (bQ ρ ids cs) (l.flatMap e.cells)
 | 0,[],l,h=>by simp [aHD] at h; subst h; exact ⟨rfl,VW.nil⟩
 | 0,_ :: _,l,h=>by simp [aHD] at h
 | n+1,cs,l,h=>by
  simp only [aHD] at h
  obtain ⟨p,h1,h⟩:=aM h
  obtain ⟨r,h2,h⟩:=aM h
  cases h
  obtain ⟨c1,e1,w1⟩:=aEs hf e cs p.1 p.2 h1
  obtain ⟨q1,q2⟩:=aMh hf n p.2 r h2
  refine ⟨by simp [q1],?_⟩
  rw [e1,cH,List.map_append,← cH,← cH,List.flatMap_cons]
  exact VW.append w1 q2

theorem aRb (hf:∀ τ x v,f τ x=some v→eR s (aL ρ ids x) (τ.av v)) {cs:List SV} {t:Tr} (h:aWf f cs=some t) :
  eR s (.ptr (bQ ρ ids cs)) (.tree t):=by
 unfold aWf at h
 split at h
 ·rename_i a b c d e
  obtain ⟨k,h1,h⟩:=aM h
  obtain ⟨n,h2,h⟩:=aM h
  obtain ⟨nm,h3,h⟩:=aM h
  obtain ⟨mk,h4,h⟩:=aM h
  obtain ⟨ks,h5,h⟩:=aM h
  cases h
  have h5':=hf _ _ _ h5
  simp only [Ty.av] at h5'
  rw [aVM] at h5'
  simp only [bQ]
  exact (eR.ptr (VW.cons (hf _ _ _ h1) (VW.cons (hf _ _ _ h2) (VW.cons (hf _ _ _ h3) (VW.cons (hf _ _ _ h4) (VW.cons h5' VW.nil)))))).trans (eR.of_weak (jY.node_tree k n nm mk ks))
 ·cases h
end

theorem bEb {α:Type}:∀ {l:List (Nat×α)} {k:Nat} {v:α},lk l k=some v→∃ j:Nat,l[j]?=some (k,v)
 | [],_,_,h=>by simp [lk] at h
 | (k',u) :: l,k,v,h=>by
  unfold lk at h
  by_cases e:k=k'
  ·subst e; rw [eE,if_pos rfl] at h; cases h; exact ⟨0,rfl⟩
  ·rw [fW e] at h
   obtain ⟨j,hj⟩:=bEb (l:=l) h
   exact ⟨j+1,hj⟩

theorem aFg {l:List (Nat×OB)} {ρ:bX} {ids:jP} {k:Nat} {o:OB} (h:lk l k=some o):∃ j:Nat,(bL l ρ ids)[j]?=some (ids k,dU ρ ids o):=by
 obtain ⟨j,hj⟩:=bEb h
 exact ⟨j,by simp [bL,hj]⟩

theorem fK (ρ:bX) (ids:jP) (l:List SV):(bQ ρ ids l).length=l.length:=by rw [cH]; simp

theorem aEp {sto:List (Nat×OB)} {ρ:bX} {ids:jP}:∀ (m:Nat) (τ:Ty) (x:SV) (v:τ.D),aH5 m sto ρ τ x=some v→eR (bL sto ρ ids) (aL ρ ids x) (τ.av v)
 | 0,_,_,_,h=>by simp [aH5] at h
 | m+1,τ,x,v,h=>by
  have ih:=aEp (sto:=sto) (ρ:=ρ) (ids:=ids) m
  have hg:∀ {τ:Ty} {j:Nat} {v:τ.D},aEc τ (ρ j)=some v→eR (bL sto ρ ids) (aL ρ ids (.var j)) (τ.av v):=fun h=>by
   simp only [aL]; exact eR.of_weak (bBG h)
  unfold aH5 at h
  cases τ with
  | int k =>
   simp only at h
   split at h
   ·split at h
    ·rename_i hk; cases h; rw [aF1 hk]; simp only [aL]; exact eR.refl _
    ·cases h
   ·split at h
    ·rename_i hk; cases h; rw [aF1 hk]; simp only [aL]; exact eR.refl _
    ·cases h
   ·exact hg h
   ·cases h
  | bool =>
   simp only at h
   split at h
   ·cases h; simp only [aL]; exact eR.refl _
   ·exact hg h
   ·cases h
  | str =>
   simp only at h
   split at h
   ·cases h; simp only [aL]; exact eR.refl _
   ·exact hg h
   ·cases h
  | tree =>
   simp only at h
   split at h
   ·exact hg h
   ·cases h; simp only [aL]; exact eR.of_weak jY.nil_tree
   ·simp only [aL]; exact aRb ih h
   ·rename_i key
    split at h
    ·rename_i e sz cs hl
     obtain ⟨j,hj⟩:=aFg (ρ:=ρ) (ids:=ids) hl
     simp only [aL]
     simp only [dU,if_true] at hj
     have:=eR.ref (s:=bL sto ρ ids) (off:=0) (by rw [fK]; exact hj)
     rw [List.drop_zero] at this
     exact this.trans (aRb ih h)
    ·cases h
   ·cases h
  | list f e =>
   simp only at h
   split at h
   ·exact hg h
   ·cases h; simp only [aL,Ty.av]; exact eR.of_weak (jY.nil_slc f)
   ·rename_i cs n f'
    split at h
    ·rename_i hf
     obtain ⟨q1,q2⟩:=aMh ih n cs v h
     simp only [aL,Ty.av]
     subst q1
     refine eR.trans (eR.slc (f:=f') q2) ?_
     cases f with
     | false=>exact eR.of_weak (jY.slc_full _ _ _)
     | true =>
      have:f'=true:=by simpa using hf
      rw [this]; exact eR.refl _
    ·cases h
   ·rename_i key j
    split at h
    ·cases h
    ·rename_i hff
     have hff':f=false:=by simpa using hff
     subst hff'
     split at h
     ·rename_i e0 j' z hl
      split at h
      ·rename_i hb
       simp only [Bool.and_eq_true] at hb
       have e1:=Nat.eq_of_beq_eq_true hb.1
       have e2:=Nat.eq_of_beq_eq_true hb.2
       subst e1; subst e2
       obtain ⟨f',hd,_⟩:=aQG h
       obtain ⟨j0,hj0⟩:=aFg (ρ:=ρ) (ids:=ids) hl
       simp only [dU,hd,aCb,vG] at hj0
       simp only [aL,hd,vG,Ty.av]
       exact eR.row (by rw [aC7 (Ty.cells_len e)]; exact hj0) (fun h0=>by rw [List.length_eq_zero_iff.1 h0]; rfl)
      ·cases h
     ·cases h
     ·cases h
   ·cases h
  | pair a b =>
   simp only at h
   split at h
   ·obtain ⟨p,h1,h⟩:=aM h
    split at h
    ·rename_i hp
     cases h
     obtain ⟨c1,e1,w1⟩:=aEs ih (.pair a b) _ p.1 p.2 h1
     rw [hp,List.append_nil] at e1
     subst e1
     simp only [aL]
     exact eR.agg w1
    ·cases h
   ·cases h
  | one a =>
   simp only at h
   split at h
   ·obtain ⟨p,h1,h⟩:=aM h
    split at h
    ·rename_i hp
     cases h
     obtain ⟨c1,e1,w1⟩:=aEs ih a _ p.1 p.2 h1
     rw [hp,List.append_nil] at e1
     subst e1
     simp only [aL]
     exact eR.agg w1
    ·cases h
   ·cases h

/-! ### sealing -/
def frzO:OB→OB
 | .cells e n cs _=>.cells e n cs true
 | .list e j _=>.list e j (some j)
 | o=>o
def frzL (ks:List Nat):List (Nat×OB)→List (Nat×OB)
 | []=>[]
 | p :: l=>(if rN p.1 ks then (p.1,frzO p.2) else p) :: frzL ks l

theorem jA.frzO {t:mI} {s:aN} {ρ:bX} {ids:jP} {o:OB} {id j:Nat} (hj:s[j]?=some (id,dU ρ ids o)):jA t s t (s.set j (id,dU ρ ids (frzO o))):=by
 have hjlt:j<s.length:=(List.getElem?_eq_some_iff.1 hj).1
 have hjv:s[j]=(id,dU ρ ids o):=(List.getElem?_eq_some_iff.1 hj).2
 have same:s.set j (id,dU ρ ids o)=s:=by rw [← hjv]; exact List.set_getElem_self hjlt
 cases o with
 | cells e n cs f =>
  have:=jA.frz (t:=t) hj
  rw [fK] at this
  exact this
 | list e k fz =>
  cases hd:ρ k with
  | mk τ l =>
   cases τ with
   | list g a =>
    simp only [dU,hd] at hj
    have:=jA.frz (t:=t) hj
    rw [aC7 (Ty.cells_len a)] at this
    simp only [Go.Sx.frzO,dU,hd,aCb,vG]
    exact this
   | _ =>
    simp only [Go.Sx.frzO,dU,hd]
    simp only [dU,hd] at same
    rw [same]; exact jA.refl
 | map k=>simp only [Go.Sx.frzO]; rw [same]; exact jA.refl
 | iter k p=>simp only [Go.Sx.frzO]; rw [same]; exact jA.refl
 | glob b k=>simp only [Go.Sx.frzO]; rw [same]; exact jA.refl

theorem jA.frzL {t:mI} {ρ:bX} {ids:jP} (ks:List Nat):∀ (l:List (Nat×OB)) (pre:aN),jA t (pre++bL l ρ ids) t (pre++bL (frzL ks l) ρ ids)
 | [],pre=>jA.refl
 | p :: l,pre=>by
  simp only [Go.Sx.frzL,bL,List.map_cons]
  have go:=jA.frzL (t:=t) (ρ:=ρ) (ids:=ids) ks l
  split
  ·have h1:=jA.frzO (t:=t) (s:=pre++(ids p.1,dU ρ ids p.2) :: bL l ρ ids) (ρ:=ρ) (ids:=ids) (o:=p.2) (id:=ids p.1) (j:=pre.length) (by simp)
   have e:(pre++(ids p.1,dU ρ ids p.2) :: bL l ρ ids).set pre.length (ids p.1,dU ρ ids (Go.Sx.frzO p.2))=pre++(ids p.1,dU ρ ids (Go.Sx.frzO p.2)) :: bL l ρ ids:=by simp
   rw [e] at h1
   have h2:=go (pre++[(ids p.1,dU ρ ids (Go.Sx.frzO p.2))])
   simp only [List.append_assoc,List.singleton_append] at h2
   exact jA.trans h1 h2
  ·have h2:=go (pre++[(ids p.1,dU ρ ids p.2)])
   simp only [List.append_assoc,List.singleton_append] at h2
   exact h2

end Go.Sx

/- The executor, part 3: patterns, and what they bind. -/
namespace Go.Sx
open Go Go.Am

abbrev Asg:=List (Nat×SV)
abbrev xM:=List (Nat×Nat)

def aVv (K:xM) (k key:Nat):Bool:=match lk K k with
 | some x=>Nat.beq x key
 | none=>false
def aKe (V:Asg) (i j:Nat):Bool:=match lk V i with
 | some (.var j')=>Nat.beq j' j
 | _=>false
theorem aJ2 {K:xM} {k key:Nat} (h:aVv K k key=true):lk K k=some key:=by
 unfold aVv at h
 split at h
 ·rename_i x hx; rw [hx,Nat.eq_of_beq_eq_true h]
 ·cases h
theorem aA8 {V:Asg} {i j:Nat} (h:aKe V i j=true):lk V i=some (.var j):=by
 unfold aKe at h
 split at h
 ·rename_i x hx; rw [hx,Nat.eq_of_beq_eq_true h]
 ·cases h

mutual
def chk (V:Asg) (K:xM):SV→SV→Bool
 | .var i,a=>match lk V i with
  | some b=>SV.beq a b
  | none=>false
 | .any,_=>true
 | .len i,.len j=>aKe V i j
 | .ptr p,.ptr a | .agg p,.agg a | .tup p,.tup a=>aNC V K p a
 | .slc p n f,.slc a m g=>Nat.beq n m && (g || !f) && aNC V K p a
 | .ref k o,.ref key o'=>aVv K k key && Nat.beq o o'
 | .row k i,.row key j=>aVv K k key && aKe V i j
 | .mp k,.mp key | .it k,.it key=>aVv K k key
 | .fn f p q,.fn g a b=>Nat.beq f g && aNC V K p a && aNC V K q b
 | .int k n,.int j m=>keq k j && ieq n m
 | .bool a,.bool b=>aYx a b
 | .str a,.str b=>aIO a b
 | .nilp,.nilp | .nils,.nils | .nilf,.nilf | .nilm,.nilm | .und,.und=>true
 | _,_=>false
def aNC (V:Asg) (K:xM):List SV→List SV→Bool
 | [],[]=>true
 | p :: ps,a :: as=>chk V K p a && aNC V K ps as
 | _,_=>false
end

def Same (d' d:Dyn):Prop:=(∃ f f' e l,d'=⟨.list f e,l⟩∧d=⟨.list f' e,l⟩)∨d'=d
theorem Same.len {d' d:Dyn} (h:Same d' d):vG d'=vG d:=by
 rcases h with ⟨f,f',e,l,rfl,rfl⟩ | rfl <;> rfl

section
variable {s:aN} {V:Asg} {K:xM} {ρ ρ':bX} {ids ids':jP}
variable (hV:∀ i b,lk V i=some b→eR s (aL ρ ids b) (ρ' i).av) (hS:∀ i j,lk V i=some (.var j)→Same (ρ' i) (ρ j)) (hK:∀ k key,lk K k=some key→ids' k=ids key)
include hV hS hK
mutual
theorem bCj:∀ (p a:SV),chk V K p a=true→eR s (aL ρ ids a) (aL ρ' ids' p)
 | .var i,a,h=>by
  simp only [chk] at h
  split at h
  ·rename_i b hb
   rw [SV.beq_eq _ _ h]
   simp only [aL]
   exact hV i b hb
  ·cases h
 | .any,a,_=>by simp only [aL]; exact fun _ _ _ _ _ _=>trivial
 | .len i,a,h=>by
  cases a <;> simp only [chk] at h <;> first | (cases h; done) | skip
  rename_i j
  simp only [aL]
  rw [(hS i j (aA8 h)).len]
  exact eR.refl _
 | .ptr p,a,h=>by
  cases a <;> simp only [chk] at h <;> first | (cases h; done) | skip
  simp only [aL]
  exact eR.ptr (aEi p _ h)
 | .agg p,a,h=>by
  cases a <;> simp only [chk] at h <;> first | (cases h; done) | skip
  simp only [aL]
  exact eR.agg (aEi p _ h)
 | .tup p,a,h=>by
  cases a <;> simp only [chk] at h <;> first | (cases h; done) | skip
  simp only [aL]
  exact eR.tup (aEi p _ h)
 | .slc p n f,a,h=>by
  cases a <;> simp only [chk] at h <;> first | (cases h; done) | skip
  rename_i cs m g
  simp only [Bool.and_eq_true] at h
  simp only [aL]
  rw [Nat.eq_of_beq_eq_true h.1.1]
  refine eR.trans (eR.slc (f:=g) (aEi p _ h.2)) ?_
  cases f with
  | false=>exact eR.of_weak (jY.slc_full _ _ _)
  | true =>
   have:g=true:=by simpa using h.1.2
   rw [this]; exact eR.refl _
 | .ref k o,a,h=>by
  cases a <;> simp only [chk] at h <;> first | (cases h; done) | skip
  simp only [Bool.and_eq_true] at h
  simp only [aL]
  rw [hK _ _ (aJ2 h.1),Nat.eq_of_beq_eq_true h.2]
  exact eR.refl _
 | .row k i,a,h=>by
  cases a <;> simp only [chk] at h <;> first | (cases h; done) | skip
  rename_i key j
  simp only [Bool.and_eq_true] at h
  simp only [aL]
  rw [hK _ _ (aJ2 h.1),(hS i j (aA8 h.2)).len]
  exact eR.refl _
 | .mp k,a,h=>by
  cases a <;> simp only [chk] at h <;> first | (cases h; done) | skip
  simp only [aL]
  rw [hK _ _ (aJ2 h)]
  exact eR.refl _
 | .it k,a,h=>by
  cases a <;> simp only [chk] at h <;> first | (cases h; done) | skip
  simp only [aL]
  rw [hK _ _ (aJ2 h)]
  exact eR.refl _
 | .fn f p q,a,h=>by
  cases a <;> simp only [chk] at h <;> first | (cases h; done) | skip
  simp only [Bool.and_eq_true] at h
  simp only [aL]
  rw [Nat.eq_of_beq_eq_true h.1.1]
  intro w m i v hr hv
  obtain ⟨fs,cs,h1,h2,h3⟩:=hv
  exact ⟨fs,cs,h1,(aEi p _ h.1.2).vl hr h2,(aEi q _ h.2).vl hr h3⟩
 | .int k n,a,h=>by
  cases a <;> simp only [chk] at h <;> first | (cases h; done) | skip
  simp only [Bool.and_eq_true] at h
  simp only [aL]
  rw [aF1 h.1,bCr h.2]
  exact eR.refl _
 | .bool b,a,h=>by
  cases a <;> simp only [chk] at h <;> first | (cases h; done) | skip
  simp only [aL]
  rw [aIL h]
  exact eR.refl _
 | .str b,a,h=>by
  cases a <;> simp only [chk] at h <;> first | (cases h; done) | skip
  simp only [aL]
  rw [aM9 h]
  exact eR.refl _
 | .nilp,a,h=>by cases a <;> simp only [chk] at h <;> first | (cases h; done) | (simp only [aL]; exact eR.refl _)
 | .nils,a,h=>by cases a <;> simp only [chk] at h <;> first | (cases h; done) | (simp only [aL]; exact eR.refl _)
 | .nilf,a,h=>by cases a <;> simp only [chk] at h <;> first | (cases h; done) | (simp only [aL]; exact eR.refl _)
 | .nilm,a,h=>by cases a <;> simp only [chk] at h <;> first | (cases h; done) | (simp only [aL]; exact eR.refl _)
 | .und,a,h=>by cases a <;> simp only [chk] at h <;> first | (cases h; done) | (simp only [aL]; exact eR.refl _)
 | .elt _ _ _,a,h=>by cases a <;> simp [chk] at h
theorem aEi:∀ (p a:List SV),aNC V K p a=true→VW s (bQ ρ ids a) (bQ ρ' ids' p)
 | [],a,h=>by
  have _:=hV
  have _:=hS
  have _:=hK
  cases a <;> simp only [aNC] at h <;> first | (cases h; done) | skip
  exact VW.nil
 | p :: ps,a,h=>by
  cases a <;> simp only [aNC] at h <;> first | (cases h; done) | skip
  simp only [Bool.and_eq_true] at h
  exact VW.cons (bCj p _ h.1) (aEi ps _ h.2)
end
end

def bEM (V:Asg) (K:xM):OB→OB→Bool
 | .cells e n p f,.cells e' n' a g=>Nat.beq e e' && Nat.beq n n' && aYx f g && aNC V K p a
 | .list e i none,.list e' j none=>Nat.beq e e' && aKe V i j
 | .list e i (some z),.list e' j (some y)=>Nat.beq e e' && aKe V i j && aKe V z y
 | .map i,.map j=>aKe V i j
 | .iter i p,.iter j q=>aKe V i j && aKe V p q
 | .glob b i,.glob b' j=>Nat.beq b b' && aKe V i j
 | _,_=>false

theorem aZu (f f':Bool) (τ:Ty) (l:List τ.D):mapOf ⟨.list f τ,l⟩=mapOf ⟨.list f' τ,l⟩:=by
 cases τ <;> first | rfl | skip
 rename_i a b
 cases a <;> rfl

theorem bFp {w:World} {m:Mu} {i:Io} {s:aN} {V:Asg} {K:xM} {ρ ρ':bX} {ids ids':jP} (hr:nY w m i s)
  (hV:∀ i b,lk V i=some b→eR s (aL ρ ids b) (ρ' i).av) (hS:∀ i j,lk V i=some (.var j)→Same (ρ' i) (ρ j)) (hK:∀ k key,lk K k=some key→ids' k=ids key)
  {p a:OB} {id:Nat} (h:bEM V K p a=true) (ho:OR w m i id (dU ρ ids a)):OR w m i id (dU ρ' ids' p):=by
 unfold bEM at h
 split at h
 ·rename_i e n p f e' n' a g
  simp only [Bool.and_eq_true] at h
  have h1:=Nat.eq_of_beq_eq_true h.1.1.1
  have h2:=Nat.eq_of_beq_eq_true h.1.1.2
  have h3:=aIL h.1.2
  subst h1; subst h2; subst h3
  have hw:=aEi hV hS hK p a h.2
  have hl:=hw.length
  rw [fK,fK] at hl
  simp only [dU] at ho ⊢
  rcases ho with ⟨g1,g2,g3⟩ | ⟨b,cap,vs,g1,g2,g3,g4,g5,g6,g7,g8,g9,g10⟩
  ·rw [g2] at hw
   have hl':p.length=0:=by
    have:=hw.length; rw [fK] at this; simpa using this
   have e0:bQ ρ' ids' p=[]:=by rw [List.length_eq_zero_iff.1 hl']; simp [bQ]
   refine .inl ⟨g1,e0,?_⟩
   rw [hl']; split <;> rfl
  ·rw [fK] at g5 g6 g7 g8
   refine .inr ⟨b,cap,vs,g1,g2,g3,g4,by rw [fK,hl]; exact g5,by rw [fK,hl]; exact g6,by rw [fK,hl]; exact g7,by rw [fK,hl]; exact hw.vl hr g8,by rw [hl]; exact g9,by rw [hl]; exact g10⟩
 ·rename_i e x e' y
  simp only [Bool.and_eq_true] at h
  have h1:=Nat.eq_of_beq_eq_true h.1
  subst h1
  have hs:=hS _ _ (aA8 h.2)
  have:dU ρ' ids' (.list e x none)=dU ρ ids (.list e y none):=by
   simp only [dU]
   rcases hs with ⟨f,f',τ,l,e1,e2⟩ | e1
   ·rw [e1,e2]; rfl
   ·rw [e1]; rfl
  rw [this]; exact ho
 ·rename_i e x z e' y u
  simp only [Bool.and_eq_true] at h
  have h1:=Nat.eq_of_beq_eq_true h.1.1
  subst h1
  have hs:=hS _ _ (aA8 h.1.2)
  have hz:=(hS _ _ (aA8 h.2)).len
  have:dU ρ' ids' (.list e x (some z))=dU ρ ids (.list e y (some u)):=by
   simp only [dU,aCb]
   rcases hs with ⟨f,f',τ,l,e1,e2⟩ | e1
   ·rw [e1,e2,hz]
   ·rw [e1,hz]
  rw [this]; exact ho
 ·rename_i x y
  have hs:=hS _ _ (aA8 h)
  have:dU ρ' ids' (.map x)=dU ρ ids (.map y):=by
   simp only [dU]
   rcases hs with ⟨f,f',τ,l,e1,e2⟩ | e1
   ·rw [e1,e2,aZu]
   ·rw [e1]
  rw [this]; exact ho
 ·rename_i x p y q
  simp only [Bool.and_eq_true] at h
  have hs:=hS _ _ (aA8 h.1)
  have hq:=hS _ _ (aA8 h.2)
  have:dU ρ' ids' (.iter x p)=dU ρ ids (.iter y q):=by
   simp only [dU]
   rcases hs with ⟨f,f',τ,l,e1,e2⟩ | e1
   ·rw [e1,e2]
   ·rcases hq with ⟨f,f',τ,l,e2,e3⟩ | e2
    ·rw [e1,e2,e3]
     cases hd:ρ y with
     | mk τ0 l0=>cases τ0 <;> rfl
    ·rw [e1,e2]
  rw [this]; exact ho
 ·rename_i b x b' y
  simp only [Bool.and_eq_true] at h
  have h1:=Nat.eq_of_beq_eq_true h.1
  subst h1
  have hs:=hS _ _ (aA8 h.2)
  have:dU ρ' ids' (.glob b x)=dU ρ ids (.glob b y):=by
   simp only [dU]
   rcases hs with ⟨f,f',τ,l,e1,e2⟩ | e1
   ·rw [e1,e2]
   ·rw [e1]
  rw [this]; exact ho
 ·cases h

/-! ### the store's part that is spoken of -/
def take1 (key:Nat):List (Nat×OB)→Option (OB×List (Nat×OB))
 | []=>none
 | p :: l=>if Nat.beq p.1 key then some (p.2,l) else match take1 key l with
  | some (o,r)=>some (o,p :: r)
  | none=>none
theorem aT6 {key:Nat}:∀ {l:List (Nat×OB)} {o:OB} {r:List (Nat×OB)},take1 key l=some (o,r)→l.Perm ((key,o) :: r)
 | [],_,_,h=>by simp [take1] at h
 | p :: l,o,r,h=>by
  unfold take1 at h
  split at h
  ·rename_i e
   cases h
   have:=Nat.eq_of_beq_eq_true e
   subst this
   exact List.Perm.refl _
  ·split at h
   ·rename_i o' r' ht
    cases h
    exact ((aT6 ht).cons p).trans (List.Perm.swap _ _ _)
   ·cases h

def aNl (V:Asg) (K:xM):List (Nat×OB)→List (Nat×OB)→Option (List (Nat×OB)×List (Nat×OB))
 | [],sto=>some ([],sto)
 | (k,po) :: l,sto=>match lk K k with
  | none=>none
  | some key=>match take1 key sto with
   | none=>none
   | some (o,sto')=>if bEM V K po o then match aNl V K l sto' with
    | some (u,r)=>some ((key,o) :: u,r)
    | none=>none
    else none

def Fits (V:Asg) (K:xM):List (Nat×OB)→List (Nat×OB)→Prop
 | [],l=>l=[]
 | p :: ps,l=>∃ a as,l=a :: as∧lk K p.1=some a.1∧bEM V K p.2 a.2=true∧Fits V K ps as

theorem aP4 {V:Asg} {K:xM}:∀ {l sto u r:List (Nat×OB)},aNl V K l sto=some (u,r)→sto.Perm (u++r)∧Fits V K l u
 | [],sto,u,r,h=>by simp [aNl] at h; obtain ⟨rfl,rfl⟩:=h; exact ⟨List.Perm.refl _,rfl⟩
 | (k,po) :: l,sto,u,r,h=>by
  simp only [aNl] at h
  split at h
  ·cases h
  ·rename_i key hk
   split at h
   ·cases h
   ·rename_i o sto' ht
    split at h
    ·rename_i hc
     split at h
     ·rename_i u' r' hs
      cases h
      obtain ⟨h1,h2⟩:=aP4 hs
      exact ⟨(aT6 ht).trans (h1.cons _),_,_,rfl,hk,hc,h2⟩
     ·cases h
    ·cases h

end Go.Sx
namespace Go.Am
open Go
def aB5 (R:Nat×Ob→Nat×Ob→Prop):aN→aN→Prop
 | [],l=>l=[]
 | p :: ps,l=>∃ q qs,l=q :: qs∧R p q∧aB5 R ps qs
theorem aB5.ids {R:Nat×Ob→Nat×Ob→Prop} (hR:∀ p q,R p q→q.1=p.1):∀ {s s':aN},aB5 R s s'→s'.map (·.1)=s.map (·.1)
 | [],_,h=>by rw [h]
 | p :: s,_,⟨q,qs,h1,h2,h3⟩=>by subst h1; simp [hR _ _ h2,aB5.ids hR h3]
theorem aB5.mem {R:Nat×Ob→Nat×Ob→Prop}:∀ {s s':aN},aB5 R s s'→∀ q∈s',∃ p∈s,R p q
 | [],_,h,q,hq=>by rw [h] at hq; cases hq
 | p :: s,_,⟨q',qs,h1,h2,h3⟩,q,hq=>by
  subst h1
  rcases List.mem_cons.1 hq with rfl | hq
  ·exact ⟨p,List.mem_cons_self,h2⟩
  ·obtain ⟨p',hp,hr⟩:=aB5.mem h3 q hq
   exact ⟨p',List.mem_cons_of_mem _ hp,hr⟩
theorem aB5.append {R:Nat×Ob→Nat×Ob→Prop}:∀ {s s' t t':aN},aB5 R s s'→aB5 R t t'→aB5 R (s++t) (s'++t')
 | [],_,_,_,h,k=>by rw [h]; exact k
 | p :: s,_,_,_,⟨q,qs,h1,h2,h3⟩,k=>by subst h1; exact ⟨q,_,rfl,h2,aB5.append h3 k⟩
theorem aB5.refl {R:Nat×Ob→Nat×Ob→Prop} (hR:∀ p,R p p):∀ s,aB5 R s s
 | []=>rfl
 | p :: s=>⟨p,s,rfl,hR p,aB5.refl hR s⟩
def aY6 (w:World) (m:Mu) (i:Io) (p q:Nat×Ob):Prop:=q.1=p.1∧(OR w m i p.1 p.2→OR w m i q.1 q.2)
theorem nY.recast {w m i} {s s':aN} (h:nY w m i s) (hp:aB5 (aY6 w m i) s s'):nY w m i s':=by
 refine ⟨h.mu,fun q hq=>?_,?_,h.fin,h.tab⟩
 ·obtain ⟨p,hp1,hp2⟩:=hp.mem q hq
  exact hp2.2 (h.obj p hp1)
 ·have hids:=hp.ids (fun p q h=>h.1)
  have key:∀ (l:aN),l.Pairwise (Go.Am.apart i)↔(l.map (·.1)).Pairwise (fun p q=>p≠q∧∀ b,blk i p=some b→blk i q≠some b):=by
   intro l; rw [List.pairwise_map]; rfl
  rw [key,hids,← key]
  exact h.apart
theorem Step.same {w m i} {s s':aN} (h:∀ p∈s',∃ q∈s,q.1=p.1):Step w m i s w m i s' :=
 ⟨rfl,rfl,rfl,Nat.le_refl _,Mu.le_refl _,Io.le_refl _,fun _ _ _=>rfl,fun _ _ _ _=>rfl,fun p hp=>.inl (h p hp),fun _b ⟨p,hp,e⟩=>.inl (let ⟨q,hq,e2⟩:=h p hp; ⟨q,hq,e2 ▸ e⟩)⟩
end Go.Am
namespace Go.Sx
open Go Go.Am

/-! ### the values that are bound -/
@[reducible] def Vals:List Ty→Type
 | []=>Unit
 | [τ]=>τ.D
 | τ :: σ :: Γ=>τ.D×Vals (σ :: Γ)
def dyns:(Γ:List Ty)→Vals Γ→List Dyn
 | [],_=>[]
 | [τ],x=>[⟨τ,x⟩]
 | τ :: σ :: Γ,x=>⟨τ,x.1⟩ :: dyns (σ :: Γ) x.2
def iE (Γ:List Ty) (x:Vals Γ):bX:=fun i=>(dyns Γ x).getD i .dflt
theorem aXP:∀ (Γ:List Ty) (x:Vals Γ),(dyns Γ x).length=Γ.length
 | [],_=>rfl
 | [_],_=>rfl
 | τ :: σ :: Γ,x=>by simp [dyns,aXP (σ :: Γ)]

def vals (sto:List (Nat×OB)) (ρ:bX) (V:Asg):(i:Nat)→(Γ:List Ty)→Option (Vals Γ)
 | _,[]=>some ()
 | i,[τ]=>(lk V i).bind fun b=>aH5 40 sto ρ τ b
 | i,τ :: σ :: Γ=>(lk V i).bind fun b=>(aH5 40 sto ρ τ b).bind fun x=>(vals sto ρ V (i+1) (σ :: Γ)).bind fun xs=>some (x,xs)

theorem bAF {sto:List (Nat×OB)} {ρ:bX} {V:Asg}:∀ {i:Nat} {Γ:List Ty} {x:Vals Γ},vals sto ρ V i Γ=some x→∀ (k:Nat) (d:Dyn),(dyns Γ x)[k]?=some d →
  ∃ b,lk V (i+k)=some b∧aH5 40 sto ρ d.1 b=some d.2
 | i,[],x,h,k,d,hd=>by simp [dyns] at hd
 | i,[τ],x,h,k,d,hd=>by
  simp only [vals] at h
  obtain ⟨b,h1,h2⟩:=aM h
  cases k with
  | zero=>simp [dyns] at hd; subst hd; exact ⟨b,h1,h2⟩
  | succ k=>simp [dyns] at hd
 | i,τ :: σ :: Γ,x,h,k,d,hd=>by
  simp only [vals] at h
  obtain ⟨b,h1,h⟩:=aM h
  obtain ⟨y,h2,h⟩:=aM h
  obtain ⟨ys,h3,h⟩:=aM h
  cases h
  cases k with
  | zero=>simp [dyns] at hd; subst hd; exact ⟨b,h1,h2⟩
  | succ k =>
   simp only [dyns,List.getElem?_cons_succ] at hd
   have:=bAF h3 k d hd
   rw [show i+(k+1)=i+1+k from by omega]
   exact this

def aTu (n:Nat):Asg→Bool
 | []=>true
 | p :: l=>Nat.blt p.1 n && aTu n l
theorem aYu {n:Nat}:∀ {V:Asg} {i:Nat} {b:SV},aTu n V=true→lk V i=some b→i<n
 | [],_,_,_,h=>by simp [lk] at h
 | (k,u) :: V,i,b,h,hb=>by
  simp only [aTu,Bool.and_eq_true] at h
  unfold lk at hb
  by_cases e:i=k
  ·subst e; exact mX h.1
  ·rw [fW e] at hb; exact aYu (V:=V) h.2 hb

theorem bCM {sto:List (Nat×OB)} {ρ:bX} {τ:Ty} {j m:Nat} {v:τ.D} (h:aH5 m sto ρ τ (.var j)=some v):aEc τ (ρ j)=some v:=by
 cases m with
 | zero=>simp [aH5] at h
 | succ m =>
  unfold aH5 at h
  cases τ <;> first | exact h | cases h

theorem bBS {τ:Ty} {d:Dyn} {v:τ.D} (h:aEc τ d=some v):Same ⟨τ,v⟩ d:=by
 cases τ with
 | list f e=>obtain ⟨f',rfl,_⟩:=aQG h; exact .inl ⟨f,f',e,v,rfl,rfl⟩
 | int k =>
  obtain ⟨τ,u⟩:=d
  cases τ <;> simp only [aEc] at h <;> first | (cases h; done) | skip
  split at h
  ·rename_i hk; cases h; rw [aF1 hk]; exact .inr rfl
  ·cases h
 | bool=>obtain ⟨τ,u⟩:=d; cases τ <;> simp only [aEc] at h <;> first | (cases h; done) | (cases h; exact .inr rfl)
 | str=>obtain ⟨τ,u⟩:=d; cases τ <;> simp only [aEc] at h <;> first | (cases h; done) | (cases h; exact .inr rfl)
 | tree=>obtain ⟨τ,u⟩:=d; cases τ <;> simp only [aEc] at h <;> first | (cases h; done) | (cases h; exact .inr rfl)
 | pair a b=>obtain ⟨τ,u⟩:=d; cases τ <;> simp only [aEc] at h <;> cases h
 | one a=>obtain ⟨τ,u⟩:=d; cases τ <;> simp only [aEc] at h <;> cases h

theorem bEG {sto:List (Nat×OB)} {ρ:bX} {ids:jP} {V:Asg} {Γ:List Ty} {x:Vals Γ} (h:vals sto ρ V 0 Γ=some x) (ha:aTu Γ.length V=true) :
  (∀ i b,lk V i=some b→eR (bL sto ρ ids) (aL ρ ids b) (iE Γ x i).av)∧(∀ i j,lk V i=some (.var j)→Same (iE Γ x i) (ρ j)):=by
 have key:∀ i b,lk V i=some b→aH5 40 sto ρ (iE Γ x i).1 b=some (iE Γ x i).2:=by
  intro i b hb
  have hlt:=aYu ha hb
  rw [← aXP Γ x] at hlt
  have hd:(dyns Γ x)[i]?=some (iE Γ x i):=by
   unfold iE
   rw [List.getD_eq_getElem?_getD,List.getElem?_eq_getElem hlt]; rfl
  obtain ⟨b',h1,h2⟩:=bAF h i _ hd
  rw [Nat.zero_add] at h1
  rw [hb] at h1
  cases h1
  exact h2
 exact ⟨fun i b hb=>aEp _ _ _ _ (key i b hb),fun i j hj=>bBS (bCM (key i _ hj))⟩

def aIm (K:xM) (ids:jP):jP:=fun k=>match lk K k with
 | some key=>ids key
 | none=>0
theorem aOa {K:xM} {ids:jP} {k key:Nat} (h:lk K k=some key):aIm K ids k=ids key:=by unfold aIm; rw [h]

theorem aTw {w:World} {m:Mu} {i:Io} {sto:List (Nat×OB)} {ρ:bX} {ids:jP} {V:Asg} {K:xM} {Γ:List Ty} {x:Vals Γ} {psto used rest:List (Nat×OB)}
  (hr:nY w m i (bL sto ρ ids)) (hx:vals sto ρ V 0 Γ=some x) (ha:aTu Γ.length V=true) (hs:aNl V K psto sto=some (used,rest)) :
  (∀ p a,chk V K p a=true→∀ v,VR m i (aL ρ ids a) v→VR m i (aL (iE Γ x) (aIm K ids) p) v)∧(∀ p a,aNC V K p a=true→∀ v,VL m i (bQ ρ ids a) v→VL m i (bQ (iE Γ x) (aIm K ids) p) v) ∧
  nY w m i (bL psto (iE Γ x) (aIm K ids)++bL rest ρ ids)∧(∀ p∈bL psto (iE Γ x) (aIm K ids)++bL rest ρ ids,∃ q∈bL sto ρ ids,q.1=p.1) ∧
  (∀ q∈bL sto ρ ids,∃ p∈bL psto (iE Γ x) (aIm K ids)++bL rest ρ ids,p.1=q.1):=by
 obtain ⟨hV,hS⟩:=bEG (ids:=ids) hx ha
 have hK:∀ k key,lk K k=some key→aIm K ids k=ids key:=fun k key h=>aOa h
 obtain ⟨h1,h2⟩:=aP4 hs
 have hperm:(bL sto ρ ids).Perm (bL used ρ ids++bL rest ρ ids):=by
  unfold bL; rw [← List.map_append]; exact h1.map _
 have hpairs:∀ (l u:List (Nat×OB)),Fits V K l u→aB5 (aY6 w m i) (bL u ρ ids) (bL l (iE Γ x) (aIm K ids)):=by
  intro l
  induction l with
  | nil=>intro u hu; simp only [Fits] at hu; subst hu; exact rfl
  | cons p l ih =>
   intro u hu
   obtain ⟨a,as,rfl,k1,k2,k3⟩:=hu
   refine ⟨_,_,rfl,⟨hK _ _ k1,fun ho=>?_⟩,ih as k3⟩
   show OR w m i (aIm K ids p.1) _
   rw [show (aIm K ids p.1)=ids a.1 from hK _ _ k1]
   exact bFp hr hV hS hK k2 ho
 have hp:=(hpairs psto used h2).append (aB5.refl (R:=aY6 w m i) (fun p=>⟨rfl,fun h=>h⟩) (bL rest ρ ids))
 have hids:=hp.ids (fun p q h=>h.1)
 refine ⟨fun p a hc v hv=>bCj hV hS hK p a hc w m i v hr hv,fun p a hc v hv=>(aEi hV hS hK p a hc).vl hr hv,(hr.perm hperm).recast hp,fun p hp'=>?_,fun q hq=>?_⟩
 ·obtain ⟨q,hq,hR⟩:=hp.mem p hp'
  exact ⟨q,hperm.mem_iff.2 hq,hR.1.symm⟩
 ·have hq':=hperm.mem_iff.1 hq
  have:q.1∈(bL psto (iE Γ x) (aIm K ids)++bL rest ρ ids).map (·.1):=by rw [hids]; exact List.mem_map_of_mem hq'
  obtain ⟨p,hp1,hp2⟩:=List.mem_map.1 this
  exact ⟨p,hp1,hp2⟩

/-! ### how a pattern is held against what is there -/
mutual
def col:SV→SV→Asg×xM→Asg×xM
 | .var i,a,c=>match lk c.1 i with
  | some _=>c
  | none=>((i,a) :: c.1,c.2)
 | .len i,.len j,c=>match lk c.1 i with
  | some _=>c
  | none=>((i,.var j) :: c.1,c.2)
 | .ptr p,.ptr a,c | .agg p,.agg a,c | .tup p,.tup a,c | .slc p _ _,.slc a _ _,c=>cols p a c
 | .ref k _,.ref key _,c | .mp k,.mp key,c | .it k,.it key,c=>match lk c.2 k with
  | some _=>c
  | none=>(c.1,(k,key) :: c.2)
 | .row k i,.row key j,c=>match lk c.2 k,lk c.1 i with
  | some _,some _=>c
  | some _,none=>((i,.var j) :: c.1,c.2)
  | none,some _=>(c.1,(k,key) :: c.2)
  | none,none=>((i,.var j) :: c.1,(k,key) :: c.2)
 | .fn _ p q,.fn _ a b,c=>cols q b (cols p a c)
 | _,_,c=>c
def cols:List SV→List SV→Asg×xM→Asg×xM
 | p :: ps,a :: as,c=>cols ps as (col p a c)
 | _,_,c=>c
end

def bBZ (i j:Nat) (c:Asg×xM):Asg×xM:=match lk c.1 i with
 | some _=>c
 | none=>((i,.var j) :: c.1,c.2)
def bJ1:OB→OB→Asg×xM→Asg×xM
 | .cells _ _ p _,.cells _ _ a _,c=>cols p a c
 | .list _ i (some z),.list _ j (some y),c=>bBZ z y (bBZ i j c)
 | .list _ i _,.list _ j _,c | .map i,.map j,c=>bBZ i j c
 | .iter i p,.iter j q,c=>bBZ p q (bBZ i j c)
 | .glob _ i,.glob _ j,c=>bBZ i j c
 | _,_,c=>c
def colS (sto:List (Nat×OB)):List (Nat×OB)→Asg×xM→Asg×xM
 | [],c=>c
 | p :: l,c=>match lk c.2 p.1 with
  | none=>colS sto l c
  | some key=>match lk sto key with
   | none=>colS sto l c
   | some o=>colS sto l (bJ1 p.2 o c)

def aGB:Nat→List (Nat×OB)→SV→List Nat
 | 0,_,_=>[]
 | n+1,sto,x=>match x with
  | .ref key _=>key :: (match lk sto key with
   | some (.cells _ _ cs _)=>cs.flatMap (aGB n sto)
   | _=>[])
  | .row key _=>[key]
  | .ptr cs | .agg cs | .tup cs | .slc cs _ _=>cs.flatMap (aGB n sto)
  | _=>[]

structure Mt where
 V:Asg
 K:xM
 sto:List (Nat×OB)
 rest:List (Nat×OB)

def mt1 (ps as:List SV) (psto:List (Nat×OB)) (n:Nat) (V:Asg) (K:xM) (sto1:List (Nat×OB)):Option Mt :=
 if aNC V K ps as && aTu n V then match aNl V K psto sto1 with
  | some (_,rest)=>some ⟨V,K,sto1,rest⟩
  | none=>none
 else none
def mt (ps as:List SV) (psto:List (Nat×OB)) (n:Nat) (K0:xM) (sto:List (Nat×OB)):Option Mt :=
 match colS sto psto (cols ps as ([],K0)) with
 | (V,K)=>mt1 ps as psto n V K (frzL (V.flatMap fun p=>aGB 20 sto p.2) sto)

theorem bD7 {ps as:List SV} {psto:List (Nat×OB)} {n:Nat} {K0:xM} {sto:List (Nat×OB)} {r:Mt} (h:mt ps as psto n K0 sto=some r) :
  aNC r.V r.K ps as=true∧aTu n r.V=true∧(∃ used,aNl r.V r.K psto r.sto=some (used,r.rest))∧∃ ks,r.sto=frzL ks sto:=by
 unfold mt at h
 split at h
 rename_i V K hc
 unfold mt1 at h
 split at h
 ·rename_i hb
  simp only [Bool.and_eq_true] at hb
  split at h
  ·rename_i used rest hs
   cases h
   exact ⟨hb.1,hb.2,⟨_,hs⟩,_,rfl⟩
  ·cases h
 ·cases h

end Go.Sx

/- The executor, part 4: operations that leave the store alone. -/
namespace Go.Sx
open Go Go.Am

section
variable {P:Program} {T:TT} {R:Type}

def Ext (st:St) (ρ:bX) (st':St) (ρ':bX):Prop :=
 st'.live=st.live∧st'.sto=st.sto∧st'.nk=st.nk∧∀ ids,eC st ρ' ids=eC st ρ ids∧bL st.sto ρ' ids=bL st.sto ρ ids
theorem Ext.refl (st:St) (ρ:bX):Ext st ρ st ρ:=⟨rfl,rfl,rfl,fun _=>⟨rfl,rfl⟩⟩

def vE (P:Program) (o:Oper) (st:St) (ρ:bX) (ids:jP) (rd:List Nat) (kk:SV→St→bX→Option R) (r:R):Prop :=
 ∃ sv st' ρ',kk sv st' ρ'=some r∧Ext st ρ st' ρ'∧∀ s,(∀ key o',rN key rd=true→lk st.sto key=some o'→(ids key,dU ρ ids o')∈s) →
  sM P o (eC st ρ ids) s (fun x y=>x=aL ρ' ids sv∧y=s)

def aY8 (st:St) (ρ:bX) (n:Nat) (ds:List Dyn) (kk:St→bX→Option R):Option R :=
 match st.ok with
 | true=>kk { live:=st.live,sto:=st.sto,nv:=st.nv+n,nk:=st.nk } (vH ρ st.nv ds)
 | false=>none

theorem aOv {st:St} {ρ:bX} {n:Nat} {ds:List Dyn} {kk:St→bX→Option R} {r:R} (h:aY8 st ρ n ds kk=some r) :
  kk { live:=st.live,sto:=st.sto,nv:=st.nv+n,nk:=st.nk } (vH ρ st.nv ds)=some r∧Ext st ρ { live:=st.live,sto:=st.sto,nv:=st.nv+n,nk:=st.nk } (vH ρ st.nv ds):=by
 unfold aY8 at h
 split at h
 ·rename_i hok
  simp only [St.ok,Bool.and_eq_true] at hok
  exact ⟨h,rfl,rfl,rfl,fun ids=>⟨rK (jK ρ st.nv ds) (fun _ _=>rfl) hok.1,pK (jK ρ st.nv ds) (fun _ _=>rfl) hok.2⟩⟩
 ·cases h

def zL:Nat→Nat→List SV
 | _,0=>[]
 | v,n+1=>.var v :: zL (v+1) n
theorem bDY (ids:jP) {ρ:bX}:∀ (ds:List Dyn) (v:Nat),(∀ k d,ds[k]?=some d→ρ (v+k)=d)→bQ ρ ids (zL v ds.length)=ds.map Dyn.av
 | [],_,_=>by simp [zL,bQ]
 | d :: ds,v,h=>by
  simp only [List.length_cons,zL,bQ,aL,List.map_cons,List.cons.injEq]
  refine ⟨by have:=h 0 d rfl; rw [Nat.add_zero] at this; rw [this],bDY ids ds (v+1) fun k d hd=>?_⟩
  rw [show v+1+k=v+(k+1) from by omega]
  exact h (k+1) d hd
theorem aS2 (ids:jP) (ρ:bX) (nv:Nat) (ds:List Dyn):bQ (vH ρ nv ds) ids (zL nv ds.length)=ds.map Dyn.av :=
 bDY ids ds nv fun k d hd=>aBN ρ nv ds k d hd
theorem bBN (ids:jP) (ρ:bX) (nv:Nat) (d:Dyn):aL (vH ρ nv [d]) ids (.var nv)=d.av:=by
 have:=aBN ρ nv [d] 0 d rfl
 rw [Nat.add_zero] at this
 simp only [aL,this]

theorem Ty.flat_length (τ:Ty) (x:τ.D):(τ.flat x).length=τ.n:=by
 have h:=Ty.cells_len τ x
 rwa [Ty.flat_cells,List.length_map] at h
theorem aKi (ids:jP) (ρ:bX) (nv:Nat) (τ:Ty) (x:τ.D):bQ (vH ρ nv (τ.flat x)) ids (zL nv τ.n)=(τ.flat x).map Dyn.av:=by
 have h:=aS2 ids ρ nv (τ.flat x)
 rwa [Ty.flat_length] at h

def uM (st:St) (ρ:bX) (d:Dyn) (kk:SV→St→bX→Option R):Option R:=aY8 st ρ 1 [d] fun st' ρ'=>kk (.var st.nv) st' ρ'

theorem aFd {st:St} {ρ:bX} {d:Dyn} {kk:SV→St→bX→Option R} {r:R} (h:uM st ρ d kk=some r) :
  ∃ st' ρ',kk (.var st.nv) st' ρ'=some r∧Ext st ρ st' ρ'∧∀ ids,aL ρ' ids (.var st.nv)=d.av:=by
 obtain ⟨h1,h2⟩:=aOv h
 exact ⟨_,_,h1,h2,fun ids=>bBN ids ρ st.nv d⟩

def bIB (st:St) (ρ:bX) (τ:Ty) (x:τ.D) (kk:SV→St→bX→Option R):Option R:=match τ with
 | .pair a b=>aY8 st ρ (Ty.pair a b).n (Ty.flat (.pair a b) x) fun st' ρ'=>kk (.agg (zL st.nv (Ty.pair a b).n)) st' ρ'
 | .one a=>aY8 st ρ (Ty.one a).n (Ty.flat (.one a) x) fun st' ρ'=>kk (.agg (zL st.nv (Ty.one a).n)) st' ρ'
 | τ=>uM st ρ ⟨τ,x⟩ kk
theorem bAC {st:St} {ρ:bX} {τ:Ty} {x:τ.D} {kk:SV→St→bX→Option R} {r:R} (h:bIB st ρ τ x kk=some r) :
  ∃ sv st' ρ',kk sv st' ρ'=some r∧Ext st ρ st' ρ'∧∀ ids,aL ρ' ids sv=τ.av x:=by
 cases τ with
 | pair a b =>
  obtain ⟨h1,h2⟩:=aOv h
  refine ⟨_,_,_,h1,h2,fun ids=>?_⟩
  simp only [aL,aKi]
  rw [← Ty.flat_cells]; rfl
 | one a =>
  obtain ⟨h1,h2⟩:=aOv h
  refine ⟨_,_,_,h1,h2,fun ids=>?_⟩
  simp only [aL,aKi]
  rw [← Ty.flat_cells]; rfl
 | int k=>obtain ⟨st',ρ',h1,h2,h3⟩:=aFd h; exact ⟨_,st',ρ',h1,h2,h3⟩
 | bool=>obtain ⟨st',ρ',h1,h2,h3⟩:=aFd h; exact ⟨_,st',ρ',h1,h2,h3⟩
 | str=>obtain ⟨st',ρ',h1,h2,h3⟩:=aFd h; exact ⟨_,st',ρ',h1,h2,h3⟩
 | tree=>obtain ⟨st',ρ',h1,h2,h3⟩:=aFd h; exact ⟨_,st',ρ',h1,h2,h3⟩
 | list f e=>obtain ⟨st',ρ',h1,h2,h3⟩:=aFd h; exact ⟨_,st',ρ',h1,h2,h3⟩
def bFi (st:St) (ρ:bX) (τ:Ty) (x:τ.D) (kk:SV→St→bX→Option R):Option R:=aY8 st ρ τ.n (τ.flat x) fun st' ρ'=>kk (.ptr (zL st.nv τ.n)) st' ρ'
theorem aXh {st:St} {ρ:bX} {τ:Ty} {x:τ.D} {kk:SV→St→bX→Option R} {r:R} (h:bFi st ρ τ x kk=some r) :
  ∃ sv st' ρ',kk sv st' ρ'=some r∧Ext st ρ st' ρ'∧∀ ids,aL ρ' ids sv=.ptr (τ.cells x):=by
 obtain ⟨h1,h2⟩:=aOv h
 refine ⟨_,_,_,h1,h2,fun ids=>?_⟩
 simp only [aL,aKi]
 rw [← Ty.flat_cells]

theorem vE.val {o:Oper} {st:St} {ρ:bX} {ids:jP} {kk:SV→St→bX→Option R} {r:R} {sv:SV} {rd:List Nat} (h:kk sv st ρ=some r)
  (ha:∀ s,sM P o (eC st ρ ids) s (fun x y=>x=aL ρ ids sv∧y=s)):vE P o st ρ ids rd kk r:=⟨sv,st,ρ,h,Ext.refl _ _,fun s _=>ha s⟩
theorem vE.new1 {o:Oper} {st:St} {ρ:bX} {ids:jP} {kk:SV→St→bX→Option R} {r:R} {d:Dyn} {rd:List Nat} (h:uM st ρ d kk=some r)
  (ha:∀ s,sM P o (eC st ρ ids) s (fun x y=>x=d.av∧y=s)):vE P o st ρ ids rd kk r:=by
 obtain ⟨st',ρ',h1,h2,h3⟩:=aFd h
 exact ⟨_,st',ρ',h1,h2,fun s _=>by rw [h3]; exact ha s⟩

/-! ### operands -/
def cst:Value→Option SV
 | .int k n=>some (.int k n)
 | .bool b=>some (.bool b)
 | .string a=>some (.str a.data.toList)
 | .pointer none=>some .nilp
 | .slice none 0 0=>some .nils
 | .nilFunc=>some .nilf
 | .map none=>some .nilm
 | _=>none
theorem bCt {ρ:bX} {ids:jP} {v:Value} {x:SV} (h:cst v=some x):aL ρ ids x=.lit v:=by
 unfold cst at h
 split at h <;> cases h <;> simp [aL]

def iD (live:List (Nat×SV)):Operand→Option SV
 | .tmp k=>lk live k
 | .const v=>cst v
 | .func f=>some (.fn f [] [])
 | .global _=>none
theorem bA {st:St} {ρ:bX} {ids:jP} {x:Operand} {sv:SV} (h:iD st.live x=some sv):ev (eC st ρ ids) x=aL ρ ids sv:=by
 cases x with
 | tmp k=>simp only [iD] at h; simp [ev,eC,h]
 | const v=>simp only [iD] at h; rw [bCt h]; rfl
 | func f=>cases h; simp [ev,aL,bQ]
 | global g=>cases h
def aWg (live:List (Nat×SV)):List Operand→Option (List SV)
 | []=>some []
 | x :: xs=>match iD live x with
  | none=>none
  | some a=>match aWg live xs with
   | none=>none
   | some as=>some (a :: as)
theorem aLs {st:St} {ρ:bX} {ids:jP}:∀ {l:List Operand} {as:List SV},aWg st.live l=some as→l.map (ev (eC st ρ ids))=bQ ρ ids as
 | [],as,h=>by cases h; simp [bQ]
 | x :: xs,as,h=>by
  simp only [aWg] at h
  split at h
  ·cases h
  ·rename_i a ha
   split at h
   ·cases h
   ·rename_i as' hs
    cases h
    simp only [List.map_cons,bQ]
    rw [bA ha,aLs hs]

def aHs (ρ:bX):SV→Option (IntKind×Int)
 | .int k n=>some (k,n)
 | .len j=>some (.i64,((vG (ρ j):Nat):Int))
 | .var j=>match ρ j with
  | ⟨.int k,n⟩=>some (k,n)
  | _=>none
 | _=>none
theorem kM {ρ:bX} {ids:jP} {x:SV} {k:IntKind} {n:Int} (h:aHs ρ x=some (k,n)):aL ρ ids x=.lit (.int k n):=by
 unfold aHs at h
 split at h
 ·cases h; simp [aL]
 ·cases h; simp [aL]
 ·rename_i j
  split at h
  ·rename_i k' n' hd
   cases h
   simp only [aL,hd]; rfl
  ·cases h
 ·cases h
theorem bFF {ρ:bX} {x:SV} {k:IntKind} {n:Int} (h:aHs ρ x=some (k,n)):intOf ρ x=some n:=by
 unfold aHs at h
 split at h
 ·cases h; rfl
 ·cases h; rfl
 ·rename_i j
  split at h
  ·rename_i k' n' hd
   cases h
   simp only [intOf,hd]
  ·cases h
 ·cases h
def strOf (ρ:bX):SV→Option (List UInt8)
 | .str l=>some l
 | .var j=>match ρ j with
  | ⟨.str,l⟩=>some l
  | _=>none
 | _=>none
theorem aB2 {ρ:bX} {ids:jP} {x:SV} {l:List UInt8} (h:strOf ρ x=some l):aL ρ ids x=.s l:=by
 unfold strOf at h
 split at h
 ·cases h; simp [aL]
 ·rename_i j
  split at h
  ·rename_i l' hd
   cases h
   simp only [aL,hd]; rfl
  ·cases h
 ·cases h
def aHf (ρ:bX):SV→Option Bool
 | .bool b=>some b
 | .var j=>match ρ j with
  | ⟨.bool,b⟩=>some b
  | _=>none
 | _=>none
theorem qH {ρ:bX} {ids:jP} {x:SV} {l:Bool} (h:aHf ρ x=some l):aL ρ ids x=.b l:=by
 unfold aHf at h
 split at h
 ·cases h; simp [aL]
 ·rename_i j
  split at h
  ·rename_i l' hd
   cases h
   simp only [aL,hd]; rfl
  ·cases h
 ·cases h
def listOf (ρ:bX):SV→Option (Sigma fun e:Ty=>List e.D)
 | .var j=>match ρ j with
  | ⟨.list _ e,l⟩=>some ⟨e,l⟩
  | _=>none
 | _=>none
theorem aPV {ρ:bX} {ids:jP} {x:SV} {e:Ty} {l:List e.D} (h:listOf ρ x=some ⟨e,l⟩):∃ f,aL ρ ids x=.slc (l.flatMap e.cells) l.length f:=by
 unfold listOf at h
 split at h
 ·rename_i j
  split at h
  ·rename_i f e' l' hd
   cases h
   exact ⟨f,by simp only [aL,hd]; rfl⟩
  ·cases h
 ·cases h

/-! ### tests -/
def ifB (ρ:bX) (x:SV) (t f:bX→Option R):Option R:=match x with
 | .bool b=>match b with
  | true=>t ρ
  | false=>f ρ
 | .var j=>match ρ j with
  | ⟨.bool,b⟩=>iteS b (t (upd ρ j ⟨.bool,true⟩)) (f (upd ρ j ⟨.bool,false⟩))
  | _=>none
 | _=>none
theorem aWY {ρ:bX} {x:SV} {t f:bX→Option R} {r:R} (h:ifB ρ x t f=some r):(aHf ρ x=some true∧t ρ=some r)∨(aHf ρ x=some false∧f ρ=some r):=by
 unfold ifB at h
 split at h
 ·rename_i b
  cases b
  ·exact .inr ⟨rfl,h⟩
  ·exact .inl ⟨rfl,h⟩
 ·rename_i j
  split at h
  ·rename_i b hd
   have hb:aHf ρ (.var j)=some b:=by simp only [aHf,hd]
   rw [aWA] at h
   split at h
   ·rename_i hbt
    subst hbt
    rw [upd_same hd] at h
    exact .inl ⟨hb,h⟩
   ·rename_i hbf
    have:b=false:=by simpa using hbf
    subst this
    rw [upd_same hd] at h
    exact .inr ⟨hb,h⟩
  ·cases h
 ·cases h

def ifT (ρ:bX) (j:Nat) (n:bX→Option R) (c:bX→Int→Int→List UInt8→List UInt8→List Tr→Option R):Option R:=match ρ j with
 | ⟨.tree,t⟩=>match t with
  | .nil=>n (upd ρ j ⟨.tree,.nil⟩)
  | .node k m nm mk ks=>c (upd ρ j ⟨.tree,.node k m nm mk ks⟩) k m nm mk ks
 | _=>none
theorem aZc {ρ:bX} {j:Nat} {n:bX→Option R} {c} {r:R} (h:ifT ρ j n c=some r) :
  (ρ j=⟨.tree,.nil⟩∧n ρ=some r)∨∃ k m nm mk ks,ρ j=⟨.tree,.node k m nm mk ks⟩∧c ρ k m nm mk ks=some r:=by
 unfold ifT at h
 split at h
 ·rename_i t hd
  cases t with
  | nil=>simp only at h; rw [upd_same hd] at h; exact .inl ⟨hd,h⟩
  | node k m nm mk ks=>simp only at h; rw [upd_same hd] at h; exact .inr ⟨k,m,nm,mk,ks,hd,h⟩
 ·cases h

/-! ### arithmetic -/
def bIo (op:BinOp) (k:IntKind) (a b:Int):Option Dyn:=match op with
 | .add=>some ⟨.int k,k.wrap (a+b)⟩
 | .sub=>some ⟨.int k,k.wrap (a - b)⟩
 | .mul=>some ⟨.int k,k.wrap (a * b)⟩
 | .eql=>some ⟨.bool,decide (a=b)⟩
 | .neq=>some ⟨.bool,!decide (a=b)⟩
 | .lss=>some ⟨.bool,decide (a<b)⟩
 | .leq=>some ⟨.bool,decide (a≤b)⟩
 | .gtr=>some ⟨.bool,decide (b<a)⟩
 | .geq=>some ⟨.bool,decide (b≤a)⟩
 | _=>none
theorem bEJ {op:BinOp} {k:IntKind} {a b:Int} {d:Dyn} (h:bIo op k a b=some d):aYR op k a b=some d.av:=by
 cases op <;> simp only [bIo] at h <;> first | (cases h; rfl) | cases h

def bAd (op:BinOp) (k:IntKind) (a b:Int):Option Int:=match op with
 | .quo=>if b=0 then none else some (k.wrap (a.tdiv b))
 | .rem=>if b=0 then none else some (a.tmod b)
 | _=>none
theorem bEE {op:BinOp} {k:IntKind} {a b n:Int} (h:bAd op k a b=some n):aYR op k a b=some (.lit (.int k n)):=by
 cases op <;> simp only [bAd] at h <;> first | (cases h; done) | skip
 ·split at h
  ·cases h
  ·rename_i hb; cases h; simp [aYR,hb]
 ·split at h
  ·cases h
  ·rename_i hb; cases h; simp [aYR,hb]

def bI0:BinOp→Bool
 | .quo | .rem=>true
 | _=>false
def bJB:BinOp→Bool
 | .and | .or | .xor | .andNot=>true
 | _=>false
def bJ3:BinOp→Bool
 | .shl | .shr=>true
 | _=>false
def isK:SV→Bool
 | .int _ _=>true
 | _=>false

def bCL (T:TT) (op:BinOp) (ty:Nat) (x y:SV) (st:St) (ρ:bX) (kk:SV→St→bX→Option R):Option R :=
 match aHs ρ x,aHs ρ y with
 | some (k,a),some (k',b)=>match bJ3 op with
  | true=>(shI op k a b).bind fun n=>uM st ρ ⟨.int k,n⟩ kk
  | false =>
  match keq k k' with
  | true=>(match bJB op with
   | true=>(qA op k a b).bind fun n=>uM st ρ ⟨.int k,n⟩ kk
   | false=>(match bI0 op with
    | true=>(bAd op k a b).bind fun n=>uM st ρ ⟨.int k,n⟩ kk
    | false=>(match bIo op k a b with
     | none=>none
     | some d=>(match isK x && isK y with
      | true=>(match d with
       | ⟨.int k,n⟩=>kk (.int k n) st ρ
       | ⟨.bool,v⟩=>kk (.bool v) st ρ
       | _=>none)
      | false=>uM st ρ d kk))))
  | false=>none
 | _,_=>match strOf ρ x,strOf ρ y with
  | some l,some r=>match op with
   | .eql=>uM st ρ ⟨.bool,decide (l=r)⟩ kk
   | .neq=>uM st ρ ⟨.bool,!decide (l=r)⟩ kk
   | .lss=>uM st ρ ⟨.bool,Op.bytesLess l r⟩ kk
   | .add=>(catS l r).bind fun v=>uM st ρ ⟨.str,v⟩ kk
   | _=>none
  | _,_=>match lk T.kd ty with
   | some .bool=>match aHf ρ x,aHf ρ y with
    | some a,some b=>match op with
     | .eql=>uM st ρ ⟨.bool,a == b⟩ kk
     | .neq=>uM st ρ ⟨.bool,!(a == b)⟩ kk
     | _=>none
    | _,_=>none
   | some (.pointer _)=>match y with
    | .nilp=>match op with
     | .eql=>match x with
      | .nilp=>kk (.bool true) st ρ
      | .ptr _ | .ref _ _=>kk (.bool false) st ρ
      | .var j=>ifT ρ j (fun ρ=>kk (.bool true) st ρ) (fun ρ _ _ _ _ _=>kk (.bool false) st ρ)
      | _=>none
     | .neq=>match x with
      | .nilp=>kk (.bool false) st ρ
      | .ptr _ | .ref _ _=>kk (.bool true) st ρ
      | .var j=>ifT ρ j (fun ρ=>kk (.bool false) st ρ) (fun ρ _ _ _ _ _=>kk (.bool true) st ρ)
      | _=>none
     | _=>none
    | _=>none
   | some (.slice _)=>match x,y,op with
    | .nils,.nils,.eql=>kk (.bool true) st ρ
    | .nils,.nils,.neq=>kk (.bool false) st ρ
    | _,_,_=>none
   | _=>none

theorem bEx (hT:eJ P T) {op:BinOp} {ty yt:Nat} {xo yo:Operand} {x y:SV} {st:St} {ρ:bX} {ids:jP} {rd:List Nat} {kk:SV→St→bX→Option R} {r:R} {o:Oper} (ho:o.op=.binOp op ty xo yo yt)
  (hx:iD st.live xo=some x) (hy:iD st.live yo=some y) (h:bCL T op ty x y st ρ kk=some r):vE P o st ρ ids rd kk r:=by
 have ex:=bA (ρ:=ρ) (ids:=ids) hx
 have ey:=bA (ρ:=ρ) (ids:=ids) hy
 have pp:∀ {av:AV},aLQ op (lk T.kd ty) (aL ρ ids x) (aL ρ ids y)=some av→∀ s,sM P o (eC st ρ ids) s (fun x y=>x=av∧y=s):=fun hp s =>
  aLx hT (by rw [ho]; simp only [pop]; rw [ex,ey]; exact hp)
 unfold bCL at h
 split at h
 ·rename_i k a k' b h1 h2
  have e1:=kM (ids:=ids) h1
  have e2:=kM (ids:=ids) h2
  split at h
  ·obtain ⟨n,h3,h4⟩:=aM h
   exact vE.new1 h4 fun s=>bB5 h3 ho (ex.trans e1) (ey.trans e2)
  split at h
  ·rename_i hk
   have:=aF1 hk
   subst this
   split at h
   ·obtain ⟨n,h3,h4⟩:=aM h
    exact vE.new1 h4 fun s=>bEu h3 ho (ex.trans e1) (ey.trans e2)
   have pi:∀ {av:AV},aYR op k a b=some av→∀ s,sM P o (eC st ρ ids) s (fun x y=>x=av∧y=s):=fun hp=>pp (by rw [e1,e2]; simp [aLQ,hp])
   split at h
   ·obtain ⟨n,h3,h4⟩:=aM h
    exact vE.new1 h4 (pi (bEE h3))
   ·split at h
    ·cases h
    ·rename_i d hd
     have hq:=pi (bEJ hd)
     split at h
     ·split at h
      ·exact vE.val h (by simp only [aL]; exact hq)
      ·exact vE.val h (by simp only [aL]; exact hq)
      ·cases h
     ·exact vE.new1 h hq
  ·cases h
 ·split at h
  ·rename_i l r' h1 h2
   have e1:=aB2 (ids:=ids) h1
   have e2:=aB2 (ids:=ids) h2
   split at h
   ·exact vE.new1 h (pp (by rw [e1,e2]; simp [aLQ]; rfl))
   ·exact vE.new1 h (pp (by rw [e1,e2]; simp [aLQ]; rfl))
   ·exact vE.new1 h (pp (by rw [e1,e2]; simp [aLQ]; rfl))
   ·obtain ⟨v,h3,h4⟩:=aM h
    exact vE.new1 h4 fun s=>bAz h3 ho (ex.trans e1) (ey.trans e2)
   ·cases h
  ·split at h
   ·rename_i hkd
    split at h
    ·rename_i a b h1 h2
     have e1:=qH (ids:=ids) h1
     have e2:=qH (ids:=ids) h2
     split at h
     ·exact vE.new1 h (pp (by rw [e1,e2,hkd]; rfl))
     ·exact vE.new1 h (pp (by rw [e1,e2,hkd]; rfl))
     ·cases h
    ·cases h
   ·rename_i e hkd
    split at h
    ·split at h
     ·split at h
      ·exact vE.val h (pp (by rw [hkd]; simp [aL,aLQ]))
      ·exact vE.val h (pp (by rw [hkd]; simp [aL,aLQ]))
      ·exact vE.val h (pp (by rw [hkd]; simp [aL,aLQ]))
      ·rename_i j
       rcases aZc h with ⟨hd,h⟩ | ⟨k,m,nm,mk,ks,hd,h⟩
       ·exact vE.val h (pp (by rw [hkd]; simp only [aL,hd]; rfl))
       ·exact vE.val h (pp (by rw [hkd]; simp only [aL,hd]; rfl))
      ·cases h
     ·split at h
      ·exact vE.val h (pp (by rw [hkd]; simp [aL,aLQ]))
      ·exact vE.val h (pp (by rw [hkd]; simp [aL,aLQ]))
      ·exact vE.val h (pp (by rw [hkd]; simp [aL,aLQ]))
      ·rename_i j
       rcases aZc h with ⟨hd,h⟩ | ⟨k,m,nm,mk,ks,hd,h⟩
       ·exact vE.val h (pp (by rw [hkd]; simp only [aL,hd]; rfl))
       ·exact vE.val h (pp (by rw [hkd]; simp only [aL,hd]; rfl))
      ·cases h
     ·cases h
    ·cases h
   ·rename_i e hkd
    split at h
    ·exact vE.val h (pp (by rw [hkd]; simp [aL,aLQ]))
    ·exact vE.val h (pp (by rw [hkd]; simp [aL,aLQ]))
    ·cases h
   ·cases h
end
end Go.Sx

/- The executor, part 5: more operations that leave the store alone. -/
namespace Go.Sx
open Go Go.Am

def aZ3 (ρ:bX):SV→Bool
 | .agg _ | .tup _ | .any | .und=>false
 | .var j=>match ρ j with
  | ⟨.pair _ _,_⟩ | ⟨.one _,_⟩=>false
  | _=>true
 | .elt _ _ i=>(intOf ρ i).isSome
 | _=>true
theorem aOE {ρ:bX} {ids:jP} {x:SV} (h:aZ3 ρ x=true):(aL ρ ids x).scalar=true:=by
 cases x <;> simp only [aZ3] at h <;> first | (cases h; done) | (simp [aL,AV.scalar]; done) | skip
 ·rename_i j
  simp only [aL]
  cases hd:ρ j with
  | mk τ v=>rw [hd] at h; cases τ <;> first | (cases h; done) | rfl
 ·rename_i k n i
  simp only [aL]
  cases hi:intOf ρ i with
  | none=>rw [hi] at h; cases h
  | some n=>rfl

def aVN (ρ:bX) (place:Nat→Option (Nat×Nat)) (cells:List SV):List (Nat×SV)→Option (List SV)
 | []=>some cells
 | (j,v) :: rest =>
  match place j with
  | none=>none
  | some (off,size) =>
   match v with
   | .agg cs=>if Nat.beq cs.length size && Nat.ble (off+cs.length) cells.length then aVN ρ place (cells.take off++cs++cells.drop (off+cs.length)) rest else none
   | v=>if aZ3 ρ v && Nat.beq 1 size && Nat.ble (off+1) cells.length then aVN ρ place (cells.set off v) rest else none

theorem aO4 {ρ:bX} {ids:jP} {place:Nat→Option (Nat×Nat)}:∀ {ps:List (Nat×SV)} {cells cs:List SV},aVN ρ place cells ps=some cs →
  aGx place (bQ ρ ids cells) (ps.map fun p=>(p.1,aL ρ ids p.2))=some (bQ ρ ids cs)
 | [],cells,cs,h=>by cases h; rfl
 | (j,v) :: rest,cells,cs,h=>by
  simp only [aVN] at h
  split at h
  ·cases h
  ·rename_i off size hp
   split at h
   ·rename_i ds
    split at h
    ·rename_i hb
     have ih:=aO4 (ids:=ids) h
     simp only [List.map_cons,aGx,hp,aL]
     rw [fK,fK,if_pos hb]
     rw [cH,cH] at ih ⊢
     rw [List.map_append,List.map_append,List.map_take,List.map_drop] at ih
     rw [cH ρ ids cs]
     exact ih
    ·cases h
   ·rename_i hne
    split at h
    ·rename_i hb
     have ih:=aO4 (ids:=ids) h
     simp only [Bool.and_eq_true] at hb
     have hsc:=aOE (ids:=ids) hb.1.1
     simp only [List.map_cons,aGx,hp]
     rw [cH,List.map_set,← cH] at ih
     split
     ·rename_i x hx; rw [hx] at hsc; cases hsc
     ·rw [hsc,hb.1.2,fK,hb.2]
      exact ih
    ·cases h

def aYe:List Value→Option (List SV)
 | []=>some []
 | v :: vs=>match cst v with
  | none=>none
  | some x=>match aYe vs with
   | none=>none
   | some xs=>some (x :: xs)
theorem aR2 {ρ:bX} {ids:jP}:∀ {vs:List Value} {xs:List SV},aYe vs=some xs→bQ ρ ids xs=vs.map AV.ofConst
 | [],xs,h=>by cases h; simp [bQ]
 | v :: vs,xs,h=>by
  simp only [aYe] at h
  split at h
  ·cases h
  ·rename_i x hx
   split at h
   ·cases h
   ·rename_i xs' hs
    cases h
    simp only [bQ,List.map_cons]
    rw [bCt hx,aR2 hs]

def aOx (live:List (Nat×SV)):List (Nat×Operand)→Option (List (Nat×SV))
 | []=>some []
 | p :: ps=>match iD live p.2 with
  | none=>none
  | some x=>match aOx live ps with
   | none=>none
   | some xs=>some ((p.1,x) :: xs)
theorem aNm {st:St} {ρ:bX} {ids:jP}:∀ {l:List (Nat×Operand)} {xs:List (Nat×SV)},aOx st.live l=some xs→l.map (fun p=>(p.1,ev (eC st ρ ids) p.2))=xs.map fun p=>(p.1,aL ρ ids p.2)
 | [],xs,h=>by cases h; rfl
 | p :: ps,xs,h=>by
  simp only [aOx] at h
  split at h
  ·cases h
  ·rename_i x hx
   split at h
   ·cases h
   ·rename_i xs' hs
    cases h
    simp only [List.map_cons]
    rw [bA hx,aNm hs]

theorem bAb (ρ:bX) (ids:jP) (l:List SV) (k:Nat):aL ρ ids (l.getD k .any)=(bQ ρ ids l).getD k .any:=by
 rw [cH]
 simp only [List.getD_eq_getElem?_getD,List.getElem?_map]
 cases l[k]? with
 | none=>simp [aL]
 | some x=>rfl
theorem aHv (ρ:bX) (ids:jP) {l:List SV} {k:Nat} {x:SV} (h:l[k]?=some x):(bQ ρ ids l)[k]?=some (aL ρ ids x):=by rw [cH]; simp [h]

def bBH (live:List (Nat×SV)) (ρ:bX) (d:Int):Option Operand→Option Int
 | none=>some d
 | some x=>match iD live x with
  | none=>none
  | some sv=>match aHs ρ sv with
   | some (k,n)=>if keq k .i64 then some n else none
   | none=>none
theorem aR8 {st:St} {ρ:bX} {ids:jP} {d n:Int} {lo:Option Operand} (h:bBH st.live ρ d lo=some n):(lo.map (ev (eC st ρ ids))).getD (.i d)=.i n:=by
 cases lo with
 | none=>cases h; rfl
 | some x =>
  simp only [bBH] at h
  split at h
  ·cases h
  ·rename_i sv hs
   split at h
   ·rename_i k n' hk
    split at h
    ·rename_i hke
     cases h
     have:=aF1 hke
     subst this
     simp only [Option.map_some,Option.getD_some]
     rw [bA hs,kM hk]
    ·cases h
   ·cases h

def isP:Ty→Bool
 | .pair _ _ | .one _=>true
 | _=>false
theorem Ty.av_cells (τ:Ty) (x:τ.D):τ.av x=if isP τ then .agg (τ.cells x) else (τ.cells x).headD .any:=by cases τ <;> rfl

structure XT where
 T:TT
 ty:List (Nat×Ty)
 objs:List Nat
 tab:List (Nat×Dyn):=[]
def aZU:Dyn→List AV
 | ⟨.list _ τ,l⟩=>l.flatMap τ.cells
 | _=>[]
structure XOk (P:Program) (X:XT):Prop where
 tt:eJ P X.T
 tab:X.tab.map (fun p=>some (aZU p.2))=X.tab.map (fun p=>(lkN tabs p.1).map fun vs=>vs.map AV.lit)
theorem XOk.tab' {P:Program} {X:XT} (h:XOk P X) {g:Nat} {d:Dyn} (e:lk X.tab g=some d):∃ vs,lkN tabs g=some vs∧aZU d=vs.map AV.lit:=by
 have:=pG h.tab _ (aEY e)
 simp only at this
 cases hl:lkN tabs g with
 | none=>rw [hl] at this; cases this
 | some vs=>rw [hl] at this; exact ⟨vs,rfl,Option.some.inj this⟩
def bAM:(τ:Ty)→Value→Option τ.D
 | .int k,.int k' n=>if keq k k' then some n else none
 | .bool,.bool b=>some b
 | .str,.string a=>some a.data.toList
 | .tree,.pointer none=>some .nil
 | .list false _,.slice none 0 0=>some []
 | _,_=>none
theorem aYD {τ:Ty} {v:Value} {z:τ.D} (h:bAM τ v=some z):jY (.lit v) (τ.av z):=by
 unfold bAM at h
 split at h
 ·split at h
  ·rename_i hk; cases h; rw [aF1 hk]; exact jY.refl _
  ·cases h
 ·cases h; exact jY.refl _
 ·cases h; exact jY.refl _
 ·cases h; exact jY.nil_tree
 ·cases h; exact jY.nil_slc false
 ·cases h
def bEH (ρ:bX) (j:Nat):Option (Sigma fun τ:Ty=>List (List UInt8×τ.D)):=match ρ j with
 | ⟨.list _ (.pair .str τ),l⟩=>some ⟨τ,l⟩
 | _=>none
theorem bBc {ρ:bX} {j:Nat} {τ:Ty} {l:List (List UInt8×τ.D)} (h:bEH ρ j=some ⟨τ,l⟩):∃ f,ρ j=⟨.list f (.pair .str τ),l⟩:=by
 unfold bEH at h
 split at h
 ·rename_i f τ' l' hd; cases h; exact ⟨f,hd⟩
 ·cases h

section
variable {P:Program} {T:TT} {R:Type}

def bJu (X:XT) (ty g:Nat) (i:Operand) (st:St) (ρ:bX) (kk:SV→St→bX→Option R):Option R:=match lk X.tab g,lk X.T.arr ty,iD st.live i with
 | some ⟨.list _ τ,l⟩,some (len,e),some i=>match aHs ρ i,lk X.T.sz e with
  | some (_,n),some sz=>(match (Nat.beq sz τ.n && Nat.ble l.length len:Bool) with | true=>(aT l n).bind fun v=>bFi st ρ τ v kk | false=>none)
  | _,_=>none
 | _,_,_=>none
def aHA (l:List Int):List UInt8:=l.map fun n=>UInt8.ofNat n.toNat
theorem aDI:∀ (l:List Int) (r:ByteArray),l.foldl (fun r n=>r.push (UInt8.ofNat n.toNat)) r=⟨r.data++(aHA l).toArray⟩
 | [],r=>by simp [aHA]
 | n :: l,r=>by
  rw [List.foldl_cons,aDI l]
  simp [ByteArray.push,aHA]
theorem bAW {m:Mu} {i:Io} {k:IntKind}:∀ (l:List Int) (vs:List Value),VL m i (l.flatMap (Ty.cells (.int k))) vs→vs=l.map (Value.int k)
 | [],vs,h=>by
  have h:vs=[]:=h
  rw [h]; rfl
 | x :: l,vs,h=>by
  have h:VL m i (.lit (.int k x) :: l.flatMap (Ty.cells (.int k))) vs:=by
   rw [List.flatMap_cons] at h; exact h
  obtain ⟨v,vs',rfl,h2,h3⟩:=h
  have h2:v=.int k x:=h2
  rw [h2,bAW l vs' h3]; rfl
theorem aVX {k:IntKind}:∀ l:List Int,(l.flatMap (Ty.cells (.int k))).length=l.length
 | []=>rfl
 | x :: l=>by rw [List.flatMap_cons,List.length_append,aVX l,List.length_cons,Nat.add_comm]; rfl
theorem aWX {P:Program} {T:TT} (h:eJ P T) {o:Oper} {t:mI} {s:aN} {src dst e id e' fz:Nat} {x:Operand} {l:List Int} (ho:o.op=.convert src dst x) (hs:lk T.kd src=some (.slice e)) (he:lk T.kd e=some (.int .u8)) (hd:lk T.kd dst=some .string)
  (hm:(id,Ob.row e' 1 (l.flatMap (Ty.cells (.int .u8))) fz)∈s) (hx:ev t x=.row id l.length):sM P o t s (fun v z=>v=.lit (.string ⟨(aHA l).toArray⟩)∧z=s):=by
 refine fX fun a w m i hr hop=>?_
 rw [ho] at hop
 have v1:=yT (x:=x) hop (by simp [Op.operands])
 rw [hx] at v1
 have q1:=aA2 h hs
 obtain ⟨d1,q2,q3⟩:=h.under he (by simp)
 cases d1 <;> simp only [aFo] at q3 <;> first | (cases q3; done) | skip
 cases q3
 obtain ⟨d2,q4,q5⟩:=h.under hd (by simp)
 cases d2 <;> simp only [aFo] at q5 <;> first | (cases q5; done) | skip
 refine ⟨.string ⟨(aHA l).toArray⟩,?_,rfl⟩
 rcases v1 with ⟨_,hn,e1⟩ | ⟨b,cap,e1,e2,e3⟩
 ·have hl:l=[]:=List.length_eq_zero_iff.1 hn
  subst hl
  have:=run_convert_bytes_string (P:=P) w src dst e none 0 0 q1 q2 q4
  simp [execOp,ho,e1,this,Conv.bytesToString,aHA]
  rfl
 ·rcases hr.obj _ hm with ⟨g1,_,_⟩ | ⟨b',cap',vs,g1,g2,_,_,g3,_,_,g5,_,_⟩
  ·rw [g1] at e1; cases e1
  ·rw [g1] at e1
   cases e1
   have hcl:=aVX (k:=.u8) l
   have hv:=bAW l _ g5
   rw [hcl] at hv g3
   have hload:(loadCells ⟨b,0,none⟩ l.length).run P w=.ok (l.map (Value.int .u8)).toArray w:=by
    have:=run_loadCells_list (P:=P) w ⟨b,0,none⟩ (l.map (Value.int .u8)) (fun j v hj=>by
     rw [add_lit,Nat.zero_add]
     have hc:w.cell? ⟨b,j,none⟩=vs[j]?:=by simp [World.cell?,g2]
     rw [hc,← hj,← hv]
     have hjl:j<l.length:=by
      have:=(List.getElem?_eq_some_iff.1 hj).1
      simpa using this
     rw [List.getElem?_take_of_lt hjl]
     simp)
    simpa using this
   have hb:=run_bytesToString (P:=P) w ⟨b,0,none⟩ l.length cap l hload
   rw [aDI] at hb
   have hz:(⟨ByteArray.empty.data++(aHA l).toArray⟩:ByteArray)=⟨(aHA l).toArray⟩:=by
    have:ByteArray.empty.data=#[]:=rfl
    rw [this]; simp
   rw [hz] at hb
   have:=run_convert_bytes_string (P:=P) w src dst e (some ⟨b,0,none⟩) l.length cap q1 q2 q4
   rw [hb] at this
   simp [execOp,ho,e3,this]
theorem aWh {P:Program} {T:TT} (h:eJ P T) {o:Oper} {t:mI} {s:aN} {src dst e:Nat} {x:Operand} {c:Int} {fu:Bool} (ho:o.op=.convert src dst x) (hs:lk T.kd src=some (.slice e)) (he:lk T.kd e=some (.int .u8)) (hd:lk T.kd dst=some .string)
  (hx:ev t x=.slc [.lit (.int .u8 c)] 1 fu):sM P o t s (fun v z=>v=.lit (.string ⟨(aHA [c]).toArray⟩)∧z=s):=by
 refine fX fun a w m i hr hop=>?_
 rw [ho] at hop
 have v1:=yT (x:=x) hop (by simp [Op.operands])
 rw [hx] at v1
 have q1:=aA2 h hs
 obtain ⟨d1,q2,q3⟩:=h.under he (by simp)
 cases d1 <;> simp only [aFo] at q3 <;> first | (cases q3; done) | skip
 cases q3
 obtain ⟨d2,q4,q5⟩:=h.under hd (by simp)
 cases d2 <;> simp only [aFo] at q5 <;> first | (cases q5; done) | skip
 refine ⟨.string ⟨(aHA [c]).toArray⟩,?_,rfl⟩
 rcases v1 with ⟨hn,_,p,e1⟩ | ⟨b,o',cap,e1,e2,e2',e3,e4⟩
 ·cases hn
 ·have hload:(loadCells ⟨b,o',none⟩ 1).run P w=.ok ([c].map (Value.int .u8)).toArray w:=by
   have:=run_loadCells_list (P:=P) w ⟨b,o',none⟩ ([c].map (Value.int .u8)) (fun j v hj=>by
    rw [add_lit]
    obtain ⟨u,g1,g2⟩:=e4.get 0 _ rfl
    have g2:u=.int .u8 c:=g2
    cases j with
    | zero =>
     have e:Value.int .u8 c=v:=by simpa using hj
     rw [(hr.mu _ _ _ g1).1,g2,e]
    | succ j=>simp at hj)
   simpa using this
  have hb:=run_bytesToString (P:=P) w ⟨b,o',none⟩ 1 cap [c] hload
  rw [aDI] at hb
  have hz:(⟨ByteArray.empty.data++(aHA [c]).toArray⟩:ByteArray)=⟨(aHA [c]).toArray⟩:=by
   have:ByteArray.empty.data=#[]:=rfl
   rw [this]; simp
  rw [hz] at hb
  have:=run_convert_bytes_string (P:=P) w src dst e (some ⟨b,o',none⟩) 1 cap q1 q2 q4
  rw [hb] at this
  simp [execOp,ho,e1,this]
def bF6 (st:St) (ρ:bX) (sv:SV) (kk:SV→St→bX→Option R):Option R:=match sv with
 | .slc [x] 1 true=>match aHs ρ x with
  | some (.u8,c)=>uM st ρ ⟨.str,aHA [c]⟩ kk
  | _=>none
 | .row key j=>match lk st.sto key with
  | some (.list _ j' _)=>match ρ j' with
   | ⟨.list _ (.int .u8),l⟩=>if vG (ρ j)=l.length then uM st ρ ⟨.str,aHA l⟩ kk else none
   | _=>none
  | _=>none
 | _=>none
def encR (l:List Int):List UInt8:=(runesBytes l).data.toList
theorem aXS {k:IntKind}:∀ (l:List Int) (j:Nat) (n:Int),l[j]?=some n→(l.flatMap (Ty.cells (.int k)))[j]?=some (.lit (.int k n))
 | [],j,n,h=>by simp at h
 | x :: l,0,n,h=>by
  have e:x=n:=by simpa using h
  subst e; rfl
 | x :: l,j+1,n,h=>aXS l j n (by simpa using h)
theorem bBl {P:Program} {T:TT} (h:eJ P T) {o:Oper} {t:mI} {s:aN} {src dst e:Nat} {x:Operand} {l:List Int} {fu:Bool} (ho:o.op=.convert src dst x) (hs:lk T.kd src=some (.slice e)) (he:lk T.kd e=some (.int .i32)) (hd:lk T.kd dst=some .string)
  (hx:ev t x=.slc (l.flatMap (Ty.cells (.int .i32))) l.length fu):sM P o t s (fun v z=>v=.lit (.string ⟨(encR l).toArray⟩)∧z=s):=by
 refine fX fun a w m i hr hop=>?_
 rw [ho] at hop
 have v1:=yT (x:=x) hop (by simp [Op.operands])
 rw [hx] at v1
 have q1:=aA2 h hs
 obtain ⟨d1,q2,q3⟩:=h.under he (by simp)
 cases d1 <;> simp only [aFo] at q3 <;> first | (cases q3; done) | skip
 cases q3
 obtain ⟨d2,q4,q5⟩:=h.under hd (by simp)
 cases d2 <;> simp only [aFo] at q5 <;> first | (cases q5; done) | skip
 have hres:(⟨(encR l).toArray⟩:ByteArray)=runesBytes l:=by unfold encR; simp
 refine ⟨.string (runesBytes l),?_,by rw [hres]; rfl⟩
 rcases v1 with ⟨hn,_,p,e1⟩ | ⟨b,o',cap,e1,e2,e2',e3,e4⟩
 ·have hl:l=[]:=List.length_eq_zero_iff.1 hn
  subst hl
  cases p with
  | none=>simp [execOp,ho,e1,run_convert_runes_nil w src dst e 0 0 q1 q2 q4]; rfl
  | some p=>simp [execOp,ho,e1,run_convert_runes w src dst e p 0 0 [] (Nat.le_refl _) q1 q2 q4 (fun j hj=>by simp at hj)]
 ·have:=run_convert_runes w src dst e ⟨b,o',none⟩ l.length cap l (Nat.le_refl _) q1 q2 q4 (fun j hj=>by
   rw [add_lit]
   obtain ⟨v,g1,g2⟩:=e4.get j _ (aXS l j l[j] (List.getElem?_eq_getElem hj))
   have g2:v=.int .i32 l[j]:=g2
   rw [(hr.mu _ _ _ g1).1,g2]
   simp [List.getD,List.getElem?_eq_getElem hj])
  rw [List.take_length] at this
  simp [execOp,ho,e1,this]

def strsOf:List SV→Option (List (List UInt8))
 | []=>some []
 | .str l :: r=>(strsOf r).map (l :: ·)
 | _=>none
theorem aVR {ρ:bX} {ids:jP}:∀ {cs:List SV} {l:List (List UInt8)},strsOf cs=some l→bQ ρ ids cs=l.flatMap (Ty.cells .str)
 | [],l,h=>by cases h; rfl
 | c :: r,l,h=>by
  cases c <;> simp only [strsOf] at h <;> first | (cases h; done) | skip
  cases hr:strsOf r with
  | none=>rw [hr] at h; cases h
  | some l' =>
   rw [hr] at h
   cases h
   simp only [bQ,aL,List.flatMap_cons]
   rw [aVR hr]
   rfl

def bH9 (T:TT) (ty:Nat) (x i:Operand) (st:St) (ρ:bX) (kk:SV→St→bX→Option R):Option R:=match lk T.kd ty,iD st.live x,iD st.live i with
  | some (.slice e),some xs,some i=>match lk T.sz e,aHs ρ i with
   | some sz,some (_,n)=>match xs with
    | .slc cs m _=>match i with
     | .int _ _=>match n with
      | .ofNat a=>(match (Nat.blt a m:Bool) with | true=>kk (.ptr (cs.drop (a * sz))) st ρ | false=>none)
      | _=>none
     | _=>match strsOf cs with
      | some l=>(match (Nat.beq sz 1 && Nat.beq l.length m:Bool) with | true=>(aT l n).bind fun v=>bFi st ρ .str v kk | false=>none)
      | none=>none
    | .row key j=>(match (Nat.blt 0 sz:Bool) with | true=>(if 0≤n∧n<((vG (ρ j):Nat):Int) then kk (.elt key sz i) st ρ else none) | false=>none)
    | xs=>match listOf ρ xs with
     | some ⟨τ,l⟩=>(match (Nat.beq sz τ.n:Bool) with | true=>(aT l n).bind fun v=>bFi st ρ τ v kk | false=>none)
     | none=>none
   | _,_=>none
  | _,_,_=>none

def bBF (X:XT) (o:Op) (st:St) (ρ:bX) (kk:SV→St→bX→Option R):Option R :=
 match o with
 | .move x | .assign x=>match iD st.live x with
  | none=>none
  | some sv=>kk sv st ρ
 | .pick c a b=>match iD st.live c,iD st.live a,iD st.live b with
  | some c,some a,some b=>ifB ρ c (fun ρ=>kk a st ρ) (fun ρ=>kk b st ρ)
  | _,_,_=>none
 | .nilCheck x=>match iD st.live x with
  | some (.ptr cs)=>kk (.ptr cs) st ρ
  | some (.ref k o)=>kk (.ref k o) st ρ
  | some (.fn f a b)=>kk (.fn f a b) st ρ
  | some (.var j)=>ifT ρ j (fun _=>none) fun ρ k m nm mk ks =>
   aY8 st ρ 5 [⟨.int .i64,k⟩,⟨.int .i64,m⟩,⟨.str,nm⟩,⟨.str,mk⟩,⟨.list false .tree,ks⟩] fun st' ρ'=>kk (.ptr (zL st.nv 5)) st' ρ'
  | _=>none
 | .fieldAddr ty x f=>match lk X.T.fld ty with
  | none=>none
  | some fs=>match fs[f]? with
   | some (_,off,_+1)=>match iD st.live x with
    | some (.ptr cs)=>kk (.ptr (cs.drop off)) st ρ
    | some (.ref k o)=>kk (.ref k (o+off)) st ρ
    | _=>none
   | _=>none
 | .field ty x f=>match lk X.T.fld ty with
  | none=>none
  | some fs=>match fs[f]? with
   | some (fty,off,_)=>match iD st.live x with
    | some (.agg cs)=>match X.T.lay fty with
     | some (true,n)=>kk (.agg ((cs.drop off).take n)) st ρ
     | some (false,_)=>match cs[off]? with
      | some sv=>kk sv st ρ
      | none=>none
     | none=>none
    | _=>none
   | _=>none
 | .load ty a=>match iD st.live a with
  | some (.ptr cs)=>match X.T.lay ty with
   | some (true,n)=>(match (Nat.ble n cs.length:Bool) with | true=>kk (.agg (cs.take n)) st ρ | false=>none)
   | some (false,_)=>match cs with
    | sv :: _=>kk sv st ρ
    | []=>none
   | none=>none
  | some (.ref key off)=>match lk st.sto key with
   | some (.cells _ _ cs _)=>match X.T.lay ty with
    | some (true,n)=>(match (Nat.ble (off+n) cs.length:Bool) with | true=>kk (.agg ((cs.drop off).take n)) st ρ | false=>none)
    | some (false,_)=>match cs[off]? with
     | some sv=>kk sv st ρ
     | none=>none
    | none=>none
   | _=>none
  | some (.elt key sz i)=>match lk st.sto key,intOf ρ i with
   | some (.list _ j _),some n=>match listOf ρ (.var j) with
    | some ⟨τ,l⟩=>match X.T.lay ty with
     | some (g,m)=>(match (Nat.beq m τ.n && Nat.beq sz τ.n && aYx g (isP τ):Bool) with | true=>(aT l n).bind fun v=>bIB st ρ τ v kk | false=>none)
     | none=>none
    | none=>none
   | _,_=>none
  | _=>none
 | .binOp op ty x y _=>match iD st.live x,iD st.live y with
  | some a,some b=>bCL X.T op ty a b st ρ kk
  | _,_=>none
 | .unOp .not _ x=>match iD st.live x with
  | some (.bool b)=>kk (.bool (!b)) st ρ
  | some sv=>match aHf ρ sv with
   | some b=>uM st ρ ⟨.bool,!b⟩ kk
   | none=>none
  | none=>none
 | .unOp .neg _ x=>match iD st.live x with
  | some sv=>match aHs ρ sv with
   | some (k,a)=>uM st ρ ⟨.int k,k.wrap (0 - a)⟩ kk
   | none=>none
  | none=>none
 | .convert src dst x=>match iD st.live x with
  | none=>none
  | some sv=>match lk X.T.kd src,lk X.T.kd dst with
   | some (.int _),some (.int k)=>match aHs ρ sv with
    | some (_,a)=>uM st ρ ⟨.int k,k.wrap a⟩ kk
    | none=>none
   | some .string,some .string=>match strOf ρ sv with
    | some _=>kk sv st ρ
    | none=>none
   | some (.slice e),some .string=>match lk X.T.kd e,listOf ρ sv with
    | some (.int .i32),some ⟨.int .i32,l⟩=>uM st ρ ⟨.str,encR l⟩ kk
    | some (.int .u8),_=>bF6 st ρ sv kk
    | _,_=>none
   | _,_=>none
 | .makeFunc (.func f) fi ca=>match aWg st.live fi.toList,aWg st.live ca.toList with
  | some a,some b=>kk (.fn f a b) st ρ
  | _,_=>none
 | .extract x j=>match iD st.live x with
  | some (.tup cs)=>match cs[j]? with
   | some sv=>kk sv st ρ
   | none=>none
  | _=>none
 | .build ty ps=>match lk X.T.zero ty,lk X.T.fld ty with
  | some zs,some fs=>(match ((fs.all fun f=>Nat.blt 0 f.2.2) && zs.all Value.oneCell':Bool) with
   | true=>(match aYe zs,aOx st.live ps.toList with
    | some cs,some ps=>(match aVN ρ (fun j=>(fs[j]?).map fun f=>(f.2.1,f.2.2)) cs ps with
     | some cs=>kk (.agg cs) st ρ
     | none=>none)
    | _,_=>none)
   | false=>none)
  | _,_=>none
 | .box _ v=>match iD st.live v with
  | some (.agg cs)=>kk (.ptr cs) st ρ
  | some sv=>(match (aZ3 ρ sv:Bool) with | true=>kk (.ptr [sv]) st ρ | false=>none)
  | none=>none
 | .buildSlice ty n ps=>match lk X.T.kd ty with
  | some (.slice e)=>match lk X.T.zero e,lk X.T.sz e with
   | some zs,some sz =>
    (match (Nat.ble (n * sz) 16777216 && Nat.beq zs.length sz && Nat.ble n 16777216 && zs.all Value.oneCell':Bool) with
    | true=>(match aYe zs,aOx st.live ps.toList with
     | some cs,some ps=>(match aVN ρ (fun j=>some (j * sz,sz)) ((List.range (n * sz)).map fun j=>cs.getD (j % sz) .any) ps with
      | some cs=>kk (.slc cs n true) st ρ
      | none=>none)
     | _,_=>none)
    | false=>none)
   | _,_=>none
  | _=>none
 | .lookup ty x y false=>match iD st.live x,iD st.live y,lk X.T.mp ty with
  | some (.mp key),some sy,some (kt,et)=>match lk st.sto key,strOf ρ sy,lk X.T.kd kt,lk X.T.zv et with
   | some (.map j),some k,some .string,some zv=>match bEH ρ j with
    | some ⟨τ,l⟩=>match bAM τ zv with
     | some z0=>bIB st ρ τ ((jN l k).getD z0) kk
     | none=>none
    | none=>none
   | _,_,_,_=>none
  | _,_,_=>none
 | .indexAddr ty x i=>match x with
  | .global g=>bJu X ty g i st ρ kk
  | x=>bH9 X.T ty x i st ρ kk
 | .index ty x i=>match lk X.T.kd ty,iD st.live x,iD st.live i with
  | some .string,some xs,some i=>match strOf ρ xs,aHs ρ i with
   | some l,some (_,n)=>(aT l n).bind fun c=>uM st ρ ⟨.int .u8,c.toNat⟩ kk
   | _,_=>none
  | _,_,_=>none
 | .slice ty x lo hi none=>match lk X.T.kd ty,iD st.live x with
  | some .string,some xs=>match strOf ρ xs with
   | some l=>match bBH st.live ρ 0 lo,bBH st.live ρ l.length hi with
    | some a,some b=>(jD l a b).bind fun v=>uM st ρ ⟨.str,v⟩ kk
    | _,_=>none
   | none=>none
  | some (.slice e),some xs=>match lk X.T.sz e,listOf ρ xs with
   | some sz,some ⟨τ,l⟩=>(match (Nat.beq sz τ.n:Bool) with
    | true=>(match bBH st.live ρ 0 lo,bBH st.live ρ l.length hi with
     | some a,some b=>(jD l a b).bind fun v=>uM st ρ ⟨.list false τ,v⟩ kk
     | _,_=>none)
    | false=>none)
   | _,_=>none
  | _,_=>none
 | .slice ty x none (some y) (some z)=>match lk X.T.kd ty,iD st.live x,iD st.live y,iD st.live z with
  | some (.slice e),some (.var j),some (.len j1),some (.len j2)=>match lk X.T.sz e,listOf ρ (.var j) with
   | some sz,some ⟨τ,l⟩=>(match (Nat.beq sz τ.n && Nat.beq j j1 && Nat.beq j j2:Bool) with | true=>uM st ρ ⟨.list true τ,l⟩ kk | false=>none)
   | _,_=>none
  | _,_,_,_=>none
 | .call ⟨.builtin .len,args,tys⟩=>match args.toList,tys.toList with
  | [x],[ty]=>match lk X.T.kd ty,iD st.live x with
   | some .string,some (.str l)=>kk (.int .i64 (l.length:Nat)) st ρ
   | some .string,some (.var j)=>match ρ j with
    | ⟨.str,_⟩=>kk (.len j) st ρ
    | _=>none
   | some (.slice _),some .nils=>kk (.int .i64 0) st ρ
   | some (.slice _),some (.slc _ n _)=>kk (.int .i64 (n:Nat)) st ρ
   | some (.slice _),some (.row _ j)=>kk (.len j) st ρ
   | some (.slice _),some (.var j)=>match ρ j with
    | ⟨.list _ _,_⟩=>kk (.len j) st ρ
    | _=>none
   | _,_=>none
  | _,_=>none
 | .call ⟨.builtin .min,args,_⟩=>match aWg st.live args.toList with
  | some [x,y]=>match aHs ρ x,aHs ρ y with
   | some (k,a),some (_,b)=>uM st ρ ⟨.int k,if b<a then b else a⟩ kk
   | _,_=>none
  | _=>none
 | .call ⟨.builtin .max,args,_⟩=>match aWg st.live args.toList with
  | some [x,y]=>match aHs ρ x,aHs ρ y with
   | some (k,a),some (_,b)=>uM st ρ ⟨.int k,if a<b then b else a⟩ kk
   | _,_=>none
  | _=>none
 | _=>none

def aUG (st:St):Op→List Nat
 | .load _ a=>match iD st.live a with
  | some (.ref key _)=>[key]
  | some (.elt key _ _)=>[key]
  | _=>[]
 | .convert _ _ a=>match iD st.live a with
  | some (.row key _)=>[key]
  | _=>[]
 | .lookup _ x _ _=>match iD st.live x with
  | some (.mp key)=>[key]
  | _=>[]
 | _=>[]

theorem vE.weaken {o:Oper} {st:St} {ρ:bX} {ids:jP} {rd:List Nat} {kk:SV→St→bX→Option R} {r:R} (h:vE P o st ρ ids [] kk r):vE P o st ρ ids rd kk r:=by
 obtain ⟨sv,st',ρ',h1,h2,h3⟩:=h
 exact ⟨sv,st',ρ',h1,h2,fun s _=>h3 s fun key o' hm _=>by simp [rN] at hm⟩

theorem bFY {τ:Ty} {l:List τ.D} {n:Int} {v:τ.D} (h:aT l n=some v) {g:Bool} {m:Nat} (hm:m=τ.n) (hg:g=isP τ) (h1:g=false→m=1) :
  (match some (g,m) with | some (true,n')=>if Nat.ble (n.toNat * τ.n+n') (l.flatMap τ.cells).length then some (AV.agg (((l.flatMap τ.cells).drop (n.toNat * τ.n)).take n')) else none | some (false,_)=>(l.flatMap τ.cells)[n.toNat * τ.n]? | none=>none)=some (τ.av v):=by
 obtain ⟨h0,hlt,hget⟩:=aCx h
 obtain ⟨r,hr⟩:=aLw (e:=τ.cells) (sz:=τ.n) (Ty.cells_len τ) hget
 have hv:=Ty.cells_len τ v
 rw [Ty.av_cells]
 cases g with
 | true =>
  simp only
  have hle:n.toNat * τ.n+m≤(l.flatMap τ.cells).length:=by
   rw [aC7 (Ty.cells_len τ),hm]
   have:n.toNat+1≤l.length:=by omega
   calc n.toNat * τ.n+τ.n=(n.toNat+1) * τ.n:=by rw [Nat.add_mul,Nat.one_mul]
    _≤l.length * τ.n:=Nat.mul_le_mul_right _ this
  rw [if_pos (by simpa using hle),hr,hm,← hv,List.take_left,← hg,if_pos rfl]
 | false =>
  simp only
  have hm1:τ.n=1:=by rw [← hm]; exact h1 rfl
  rw [← hg,if_neg (by simp)]
  have:=congrArg (fun l=>l[0]?) hr
  simp only [List.getElem?_drop,Nat.add_zero] at this
  rw [this,List.getElem?_append_left (by rw [hv,hm1]; exact Nat.one_pos)]
  cases hc:τ.cells v with
  | nil=>rw [hc,hm1] at hv; cases hv
  | cons x xs=>rfl

theorem aXe {X:XT} (hX:XOk P X) {o:Oper} {st:St} {ρ:bX} {ids:jP} {kk:SV→St→bX→Option R} {r:R} (h:bBF X o.op st ρ kk=some r):vE P o st ρ ids (aUG st o.op) kk r:=by
 have hT:=hX.tt
 have pp:∀ {av:AV},pop X.T (eC st ρ ids) o.op=some av→∀ s,sM P o (eC st ρ ids) s (fun x y=>x=av∧y=s):=fun hp s=>aLx hT hp
 obtain ⟨dst,op,type,pos,after,guard⟩:=o
 simp only at h pp ⊢
 cases op <;> simp only [bBF] at h <;> first | (cases h; done) | skip
 case move x =>
  split at h
  ·cases h
  ·rename_i sv hx
   exact vE.val h (pp (by simp only [pop]; rw [bA hx]))
 case assign x =>
  split at h
  ·cases h
  ·rename_i sv hx
   exact vE.val h (pp (by simp only [pop]; rw [bA hx]))
 case pick c a b =>
  split at h
  ·rename_i c' a' b' h1 h2 h3
   rcases aWY h with ⟨hb,h⟩ | ⟨hb,h⟩
   ·exact vE.val h (pp (by simp only [pop]; rw [bA h1,qH hb,bA h2]; rfl))
   ·exact vE.val h (pp (by simp only [pop]; rw [bA h1,qH hb,bA h3]; rfl))
  ·cases h
 case nilCheck x =>
  split at h
  ·rename_i cs hx; exact vE.val h (pp (by simp only [pop]; rw [bA hx]; simp [aL]))
  ·rename_i k o hx; exact vE.val h (pp (by simp only [pop]; rw [bA hx]; simp [aL]))
  ·rename_i f a b hx; exact vE.val h (pp (by simp only [pop]; rw [bA hx]; simp [aL]))
  ·rename_i j hx
   rcases aZc h with ⟨hd,h⟩ | ⟨k,m,nm,mk,ks,hd,h⟩
   ·cases h
   ·obtain ⟨h1,h2⟩:=aOv h
    refine ⟨_,_,_,h1,h2,fun s _=>?_⟩
    have e:=aS2 ids ρ st.nv [⟨.int .i64,k⟩,⟨.int .i64,m⟩,⟨.str,nm⟩,⟨.str,mk⟩,⟨.list false .tree,ks⟩]
    refine pp ?_ s
    simp only [pop]
    rw [bA hx]
    simp only [aL,hd]
    simp only [List.length_cons,List.length_nil,Nat.zero_add,Nat.reduceAdd] at e ⊢
    rw [e]
    simp only [Dyn.av,Ty.av,List.map_cons,List.map_nil]
    rw [show List.flatMap Ty.tree.cells ks=ks.map .tree from aVM ks]
  ·cases h
 case fieldAddr ty x f =>
  split at h
  ·cases h
  ·rename_i fs hf
   split at h
   ·rename_i fty off sz hg
    split at h
    ·rename_i cs hx
     exact vE.val h (pp (by simp only [pop,hf,hg]; rw [bA hx]; simp only [aL]; rw [cH,cH,List.map_drop]))
    ·rename_i k o hx
     exact vE.val h (pp (by simp only [pop,hf,hg]; rw [bA hx]; simp only [aL]))
    ·cases h
   ·cases h
 case field ty x f =>
  split at h
  ·cases h
  ·rename_i fs hf
   split at h
   ·rename_i fty off sz hg
    split at h
    ·rename_i cs hx
     split at h
     ·rename_i n hl
      exact vE.val h (pp (by simp only [pop,hf,hg,hl]; rw [bA hx]; simp only [aL]; rw [cH,cH,List.map_take,List.map_drop]))
     ·rename_i n hl
      split at h
      ·rename_i sv hs
       exact vE.val h (pp (by simp only [pop,hf,hg,hl]; rw [bA hx]; simp only [aL]; exact aHv ρ ids hs))
      ·cases h
     ·cases h
    ·cases h
   ·cases h
 case load ty a =>
  split at h
  ·rename_i cs hx
   split at h
   ·rename_i n hl
    split at h
    ·rename_i hb
     exact vE.val h (pp (by simp only [pop,hl]; rw [bA hx]; simp only [aL]; rw [fK,if_pos hb,cH,cH,List.map_take]))
    ·cases h
   ·rename_i n hl
    split at h
    ·rename_i sv cs'
     exact vE.val h (pp (by simp only [pop,hl]; rw [bA hx]; simp only [aL,bQ]; rfl))
    ·cases h
   ·cases h
  ·rename_i key off hx
   split at h
   ·rename_i e sz cs fz hk
    have hrd:rN key (aUG st (.load ty a))=true:=by simp only [aUG,hx,rN,eE,if_true]
    split at h
    ·rename_i n hl
     split at h
     ·rename_i hb
      refine ⟨_,_,_,h,Ext.refl _ _,fun s hs=>?_⟩
      refine aQk (off:=off) hT (hs key _ hrd hk) rfl (by rw [bA hx]; simp only [aL]) ?_
      rw [hl]
      simp only [aL]
      rw [fK,if_pos hb,cH,cH,List.map_take,List.map_drop]
     ·cases h
    ·rename_i n hl
     split at h
     ·rename_i sv hsv
      refine ⟨_,_,_,h,Ext.refl _ _,fun s hs=>?_⟩
      refine aQk (off:=off) hT (hs key _ hrd hk) rfl (by rw [bA hx]; simp only [aL]) ?_
      rw [hl]
      exact aHv ρ ids hsv
     ·cases h
    ·cases h
   ·cases h
  ·rename_i key sz i hx
   split at h
   ·rename_i e j fz n hk hi
    have hrd:rN key (aUG st (.load ty a))=true:=by simp only [aUG,hx,rN,eE,if_true]
    split at h
    ·rename_i τ l hl
     split at h
     ·rename_i g m hlay
      split at h
      ·rename_i hb
       simp only [Bool.and_eq_true] at hb
       have hm:=Nat.eq_of_beq_eq_true hb.1.1
       have hsz:=Nat.eq_of_beq_eq_true hb.1.2
       have hg:=aIL hb.2
       obtain ⟨v,hv,h⟩:=aM h
       obtain ⟨sv,st',ρ',h1,h2,h3⟩:=bAC h
       refine ⟨_,_,_,h1,h2,fun s hs=>?_⟩
       have hd:∃ f,ρ j=⟨.list f τ,l⟩:=by
        unfold listOf at hl
        simp only at hl
        split at hl
        ·rename_i f' e' l' hd; cases hl; exact ⟨_,hd⟩
        ·cases hl
       obtain ⟨f,hd⟩:=hd
       have hmem:=hs key _ hrd hk
       simp only [dU,hd] at hmem
       rw [h3]
       refine aQk (off:=n.toNat * τ.n) hT hmem rfl (by rw [bA hx]; simp only [aL,hi]; rw [hsz]) ?_
       rw [hlay]
       exact bFY hv hm hg (fun hgf=>(TT.lay_inv hlay).choose_spec.2.2.2 hgf)
      ·cases h
     ·cases h
    ·cases h
   ·cases h
  ·cases h
 case binOp op ty x y yt =>
  split at h
  ·rename_i a b hx hy
   exact bEx hT rfl hx hy h
  ·cases h
 case unOp op ty x =>
  cases op <;> simp only at h <;> first | (cases h; done) | skip
  ·split at h
   ·rename_i sv hx
    split at h
    ·rename_i k a hk
     exact vE.new1 h (pp (by simp only [pop]; rw [bA hx,kM hk]; rfl))
    ·cases h
   ·cases h
  ·split at h
   ·rename_i b hx
    exact vE.val h (pp (by simp only [pop]; rw [bA hx]; simp only [aL]))
   ·rename_i sv hne hx
    split at h
    ·rename_i b hb
     exact vE.new1 h (pp (by simp only [pop]; rw [bA hx,qH hb]; rfl))
    ·cases h
   ·cases h
 case convert src dst x =>
  split at h
  ·cases h
  ·rename_i sv hx
   split at h
   ·rename_i k1 k2 hs hd
    split at h
    ·rename_i k a hk
     exact vE.new1 h (pp (by simp only [pop,hs,hd]; rw [bA hx,kM hk]; rfl))
    ·cases h
   ·rename_i hs hd
    split at h
    ·rename_i l hl
     exact vE.val h (pp (by simp only [pop,hs,hd]; rw [bA hx,aB2 hl]))
    ·cases h
   ·rename_i e hs hd
    split at h
    ·rename_i l he hl
     obtain ⟨f,hf⟩:=aPV (ids:=ids) hl
     exact vE.new1 h fun s=>bBl hT rfl hs he hd (by rw [bA hx,hf])
    ·skip
     unfold bF6 at h
     split at h
     ·rename_i x1
      split at h
      ·rename_i c hc
       exact vE.new1 h fun s=>aWh (fu:=true) hT rfl hs (by assumption) hd (by rw [bA hx]; simp only [aL,bQ,kM hc])
      ·cases h
     ·rename_i key j
      split at h
      ·rename_i e' j' fz' hk
       split at h
       ·rename_i f l hj'
        by_cases hlen:vG (ρ j)=l.length
        ·rw [if_pos hlen] at h
         have hrd:rN key (aUG st (.convert src dst x))=true:=by simp only [aUG,hx,rN,eE,if_true]
         obtain ⟨st',ρ',h1,h2,h3⟩:=aFd h
         refine ⟨_,st',ρ',h1,h2,fun s hs'=>?_⟩
         rw [h3]
         have hmem:=hs' key _ hrd hk
         simp only [dU,hj'] at hmem
         exact aWX hT rfl hs (by assumption) hd hmem (by rw [bA hx]; simp only [aL]; rw [hlen])
        ·rw [if_neg hlen] at h; cases h
       ·cases h
      ·cases h
     ·cases h
    ·cases h
   ·cases h
 case makeFunc f fi ca =>
  cases f <;> simp only at h <;> first | (cases h; done) | skip
  split at h
  ·rename_i a b ha hb
   exact vE.val h (pp (by simp only [pop]; rw [aLs ha,aLs hb]; simp only [aL]))
  ·cases h
 case extract x j =>
  split at h
  ·rename_i cs hx
   split at h
   ·rename_i sv hs
    exact vE.val h (pp (by simp only [pop]; rw [bA hx]; simp only [aL]; exact aHv ρ ids hs))
   ·cases h
  ·cases h
 case build ty ps =>
  split at h
  ·rename_i zs fs hz hf
   split at h
   ·rename_i hb
    split at h
    ·rename_i cs ps' hc hp
     split at h
     ·rename_i cs' hfil
      refine vE.val h (pp ?_)
      have q:=aO4 (ids:=ids) hfil
      simp only [pop,hz,hf]
      rw [if_neg (by rw [hb]; simp)]
      unfold aHl
      rw [aNm hp,← aR2 (ρ:=ρ) (ids:=ids) hc,q]
      simp [aL]
     ·cases h
    ·cases h
   ·cases h
  ·cases h
 case box e v =>
  split at h
  ·rename_i cs hx
   exact vE.val h (pp (by simp only [pop]; rw [bA hx]; simp only [aL]))
  ·rename_i sv hne hx
   split at h
   ·rename_i hsc
    refine vE.val h (pp ?_)
    have hs:=aOE (ids:=ids) hsc
    simp only [pop]
    rw [bA hx]
    simp only [aL,bQ]
    split
    ·rename_i cs hcs; rw [hcs] at hs; cases hs
    ·rw [if_pos hs]
   ·cases h
  ·cases h
 case buildSlice ty n ps =>
  split at h
  ·rename_i e hk
   split at h
   ·rename_i zs sz hz hs
    split at h
    ·rename_i hb
     split at h
     ·rename_i cs ps' hc hp
      split at h
      ·rename_i cs' hfil
       refine vE.val h (pp ?_)
       have q:=aO4 (ids:=ids) hfil
       simp only [pop,hk,hz,hs]
       rw [if_pos hb]
       unfold aHl
       rw [aNm hp]
       have e1:bQ ρ ids ((List.range (n * sz)).map fun j=>cs.getD (j % sz) .any)=(List.range (n * sz)).map fun j=>(zs.map AV.ofConst).getD (j % sz) .any:=by
        rw [cH,List.map_map]
        apply List.map_congr_left
        intro j _
        simp only [Function.comp]
        rw [bAb,aR2 hc]
       rw [← e1,q]
       simp [aL]
      ·cases h
     ·cases h
    ·cases h
   ·cases h
  ·cases h
 case lookup ty x y ok =>
  cases ok <;> simp only at h <;> first | (cases h; done) | skip
  split at h
  ·rename_i key sy kt et hx hy hmp
   split at h
   ·rename_i j k zv hk hs hkt hz
    split at h
    ·rename_i τ l hm
     split at h
     ·rename_i z0 hz0
      obtain ⟨f,hd⟩:=bBc hm
      obtain ⟨sv,st',ρ',h1,h2,h3⟩:=bAC h
      refine ⟨_,_,_,h1,h2,fun s hmem=>?_⟩
      have hrd:rN key (aUG st (.lookup ty x y false))=true:=by simp only [aUG,hx,rN,eE,if_true]
      have hq:=hmem key _ hrd hk
      simp only [dU,hd,Go.Sx.mapOf] at hq
      rw [h3]
      exact aX9 (g:=τ.av) (l:=l) hT rfl hmp hkt hz (aYD hz0) (by rw [bA hx]; simp only [aL]) (by rw [bA hy,aB2 hs]) hq
     ·cases h
    ·cases h
   ·cases h
  ·cases h
 case indexAddr ty x i =>
  have hmain:∀ x,bH9 X.T ty x i st ρ kk=some r→vE P ⟨dst,.indexAddr ty x i,type,pos,after,guard⟩ st ρ ids [] kk r:=by
   intro x h
   clear pp
   unfold bH9 at h
   split at h
   ·rename_i e xs i' hk hx hi
    split at h
    ·rename_i sz k n hs hn
     split at h
     ·rename_i cs m fl
      split at h
      ·split at h
       ·rename_i a
        split at h
        ·rename_i hlt
         refine vE.val h fun s=>?_
         simp only [aL]
         rw [cH,List.map_drop,← cH]
         have:=aIn (P:=P) (o:=⟨dst,.indexAddr ty x i,type,pos,after,guard⟩) (s:=s) (t:=eC st ρ ids) (cs:=bQ ρ ids cs) (n:=m) (fu:=fl) (k:=k) (j:=Int.ofNat a) hT rfl hk hs (by rw [bA hx]; simp only [aL]) (by rw [bA hi,kM hn]) (by simp) (by have:=mX hlt; simpa using this)
         exact this
        ·cases h
       ·cases h
      ·split at h
       ·rename_i l hl
        split at h
        ·rename_i hb
         simp only [Bool.and_eq_true] at hb
         have hsz':=Nat.eq_of_beq_eq_true hb.1
         have hlen:=Nat.eq_of_beq_eq_true hb.2
         obtain ⟨v,hv,h⟩:=aM h
         obtain ⟨sv,st',ρ',h1,h2,h3⟩:=aXh h
         refine ⟨_,_,_,h1,h2,fun s _=>?_⟩
         rw [h3]
         refine aXF (sz:=sz) (g:=Ty.cells .str) (l:=l) (fu:=fl) hT (fun x=>by rw [hsz']; rfl) rfl hk hs ?_ (by rw [bA hi,kM hn]) hv
         rw [bA hx]
         simp only [aL]
         rw [aVR hl,← hlen]
        ·cases h
       ·cases h
     ·rename_i key j
      split at h
      ·rename_i hpos
       split at h
       ·rename_i hb
        refine vE.val h fun s=>?_
        simp only [aL]
        rw [bFF hn]
        exact aWw hT rfl hk hs (by rw [bA hx]; simp only [aL]) (by rw [bA hi,kM hn]) hb.1 hb.2
       ·cases h
      ·cases h
     ·split at h
      ·rename_i τ l hl
       split at h
       ·rename_i hsz
        have hsz':=Nat.eq_of_beq_eq_true hsz
        obtain ⟨v,hv,h⟩:=aM h
        obtain ⟨sv,st',ρ',h1,h2,h3⟩:=aXh h
        refine ⟨_,_,_,h1,h2,fun s _=>?_⟩
        rw [h3]
        obtain ⟨f,hf⟩:=aPV (ids:=ids) hl
        exact aXF (sz:=sz) hT (fun x=>by rw [Ty.cells_len,hsz']) rfl hk hs (by rw [bA hx,hf]) (by rw [bA hi,kM hn]) hv
       ·cases h
      ·cases h
    ·cases h
   ·cases h
  cases x with
  | global g =>
   simp only at h
   unfold bJu at h
   split at h
   ·rename_i f τ l len e i' hg ha hi
    split at h
    ·rename_i k n sz hn hsz
     split at h
     ·rename_i hb
      simp only [Bool.and_eq_true] at hb
      have e3:=Nat.eq_of_beq_eq_true hb.1
      have hle:=Nat.le_of_ble_eq_true hb.2
      obtain ⟨v,hv,h⟩:=aM h
      obtain ⟨vs,hvs,hcs⟩:=hX.tab' hg
      simp only [aZU] at hcs
      obtain ⟨h0,hlt,hget⟩:=aCx hv
      obtain ⟨sv,st',ρ',h1,h2,h3⟩:=aXh h
      refine ⟨_,_,_,h1,h2,fun s _=>?_⟩
      rw [h3]
      obtain ⟨rr,hrr⟩:=aLw (e:=τ.cells) (sz:=τ.n) (Ty.cells_len τ) hget
      have:=aZV (P:=P) (o:=⟨dst,.indexAddr ty (.global g) i,type,pos,after,guard⟩) (t:=eC st ρ ids) (s:=s) hT rfl ha hsz (by rw [bA hi,kM hn]) hvs h0 (by omega)
      refine this.view fun mm ii u hu=>?_
      rw [e3,← hcs,hrr] at hu
      exact jY.ptr_take (τ.cells v) rr _ _ _ hu
     ·cases h
    ·cases h
   ·cases h
  | tmp k=>exact (hmain _ h).weaken
  | const v=>exact (hmain _ h).weaken
  | func f=>exact (hmain _ h).weaken
 case index ty x i =>
  split at h
  ·rename_i xs i' hk hx hi
   split at h
   ·rename_i l k n hl hn
    obtain ⟨c,hc,h⟩:=aM h
    exact vE.new1 h fun s=>bCi hT hc rfl hk (by rw [bA hx,aB2 hl]) (by rw [bA hi,kM hn])
   ·cases h
  ·cases h
 case slice ty x lo hi mx =>
  cases mx with
  | none =>
   simp only at h
   split at h
   ·rename_i xs hk hx
    split at h
    ·rename_i l hl
     split at h
     ·rename_i a b h1 h2
      obtain ⟨v,hv,h⟩:=aM h
      exact vE.new1 h fun s=>bCm hT hv rfl hk (by rw [bA hx,aB2 hl]) (aR8 h1) (aR8 h2)
     ·cases h
    ·cases h
   ·rename_i e xs hk hx
    split at h
    ·rename_i sz τ l hs hl
     split at h
     ·rename_i hsz
      have hsz':=Nat.eq_of_beq_eq_true hsz
      split at h
      ·rename_i a b h1 h2
       obtain ⟨v,hv,h⟩:=aM h
       obtain ⟨f,hf⟩:=aPV (ids:=ids) hl
       exact vE.new1 h fun s=>bDr (sz:=sz) hT (fun x=>by rw [Ty.cells_len,hsz']) hv rfl hk hs (by rw [bA hx,hf]) (aR8 h1) (aR8 h2)
      ·cases h
     ·cases h
    ·cases h
   ·cases h
  | some z =>
   cases lo <;> cases hi <;> simp only at h <;> first | (cases h; done) | skip
   rename_i y
   split at h
   ·rename_i e j j1 j2 hk hx hy hz
    split at h
    ·rename_i sz τ l hs hl
     split at h
     ·rename_i hb
      simp only [Bool.and_eq_true] at hb
      have hsz:=Nat.eq_of_beq_eq_true hb.1.1
      have e1:=Nat.eq_of_beq_eq_true hb.1.2
      have e2:=Nat.eq_of_beq_eq_true hb.2
      subst e1; subst e2
      have hd:∃ f,ρ j=⟨.list f τ,l⟩:=by
       unfold listOf at hl
       simp only at hl
       split at hl
       ·rename_i f' e' l' hd; cases hl; exact ⟨_,hd⟩
       ·cases hl
      obtain ⟨f,hd⟩:=hd
      refine vE.new1 h fun s=>?_
      refine aYU (fu:=f) hT rfl hk hs (by rw [bA hx]; simp only [aL,hd]; rfl) (by rw [bA hy]; simp only [aL,hd,vG]) (by rw [bA hz]; simp only [aL,hd,vG])
     ·cases h
    ·cases h
   ·cases h
 case call c =>
  obtain ⟨callee,args,tys⟩:=c
  cases callee <;> (try simp only at h) <;> first | (cases h; done) | skip
  rename_i b
  cases b <;> (try simp only at h) <;> first | (cases h; done) | skip
  ·-- len
   split at h
   ·rename_i x ty ha ht
    have ps:∀ {av:AV},aHt X.T (eC st ρ ids) .len [x] [ty]=some av→∀ s,sM P ⟨dst,.call ⟨.builtin .len,args,tys⟩,type,pos,after,guard⟩ (eC st ρ ids) s (fun x y=>x=av∧y=s):=fun hp s=>aLx hT (by simp only [pop,ha,ht]; exact hp)
    split at h
    ·rename_i l hk hx
     exact vE.val h (ps (by simp only [aHt,hk]; rw [bA hx]; simp [aL]))
    ·rename_i j hk hx
     split at h
     ·rename_i l hd
      exact vE.val h (ps (by simp only [aHt,hk]; rw [bA hx]; simp only [aL,hd]; simp [Dyn.av,Ty.av,vG]))
     ·cases h
    ·rename_i e hk hx
     exact vE.val h (ps (by simp only [aHt,hk]; rw [bA hx]; simp [aL]))
    ·rename_i e cs n f hk hx
     exact vE.val h (ps (by simp only [aHt,hk]; rw [bA hx]; simp [aL]))
    ·rename_i e key j hk hx
     exact vE.val h (ps (by simp only [aHt,hk]; rw [bA hx]; simp [aL]))
    ·rename_i e j hk hx
     split at h
     ·rename_i f τ l hd
      exact vE.val h (ps (by simp only [aHt,hk]; rw [bA hx]; simp only [aL,hd]; simp [Dyn.av,Ty.av,vG]))
     ·cases h
    ·cases h
   ·cases h
  ·-- max
   split at h
   ·rename_i x y ha
    split at h
    ·rename_i k a k' b hx hy
     refine vE.new1 h (pp ?_)
     have e:=aLs (ρ:=ρ) (ids:=ids) ha
     match hargs:args.toList with
     | [x1,y1] =>
      rw [hargs] at e
      simp only [List.map_cons,List.map_nil,bQ,List.cons.injEq,and_true] at e
      simp only [pop,hargs]
      cases htl:tys.toList with
      | nil=>simp only [aHt]; rw [e.1,e.2,kM hx,kM hy]; rfl
      | cons t ts=>simp only [aHt]; rw [e.1,e.2,kM hx,kM hy]; rfl
     | []=>rw [hargs] at e; simp [bQ] at e
     | [_]=>rw [hargs] at e; simp [bQ] at e
     | _ :: _ :: _ :: _=>rw [hargs] at e; simp [bQ] at e
    ·cases h
   ·cases h
  ·-- min
   split at h
   ·rename_i x y ha
    split at h
    ·rename_i k a k' b hx hy
     refine vE.new1 h (pp ?_)
     have e:=aLs (ρ:=ρ) (ids:=ids) ha
     match hargs:args.toList with
     | [x1,y1] =>
      rw [hargs] at e
      simp only [List.map_cons,List.map_nil,bQ,List.cons.injEq,and_true] at e
      simp only [pop,hargs]
      cases htl:tys.toList with
      | nil=>simp only [aHt]; rw [e.1,e.2,kM hx,kM hy]; rfl
      | cons t ts=>simp only [aHt]; rw [e.1,e.2,kM hx,kM hy]; rfl
     | []=>rw [hargs] at e; simp [bQ] at e
     | [_]=>rw [hargs] at e; simp [bQ] at e
     | _ :: _ :: _ :: _=>rw [hargs] at e; simp [bQ] at e
    ·cases h
   ·cases h
end
end Go.Sx

/- The executor, part 6: operations that turn the store; calls. -/
namespace Go.Am
open Go
section
variable {P:Program} {t:mI} {s:aN}
theorem sM.views {o:Oper} {t':mI} {s':aN} {R:AV→aN→Prop}
  (h:∀ w m i (a:Act),nY w m i s→(∀ k,Operand.tmp k∈o.op.operands→VR m i (t k) (a.tmps.getD k undef)) →
   ∃ m' i',nY w m' i' s'∧(∀ k,Operand.tmp k∈o.op.operands→VR m' i' (t' k) (a.tmps.getD k undef))∧Step w m i s w m' i' s') (k:sM P o t' s' R):sM P o t s R:=by
 intro a w m i hr hop K Q hK
 obtain ⟨m',i',h1,h2,h3⟩:=h w m i a hr hop
 exact k a w m' i' h1 h2 K Q fun v w' av s'' m'' i'' q1 q2 q3 q4=>hK v w' av s'' m'' i'' q1 q2 q3 (h3.trans q4)

theorem sM.shift {o:Oper} {s':aN} {R:AV→aN→Prop} (h:jA (fun _=>.any) s (fun _=>.any) s') (k:sM P o t s' R):sM P o t s R :=
 sM.views (fun w m i a hr hop=>by
  obtain ⟨m',i',h1,_,h3⟩:=h w m i a hr (fun _=>trivial)
  exact ⟨m',i',h1,fun k hk=>VR.mono h3.mu h3.io _ _ (hop k hk),h3⟩) k

theorem eR.mono {s s':aN} {x y:AV} (h:eR s x y) (hs:s.Sublist s'):eR s' x y:=fun w m i v hr hv=>h w m i v (hr.sub hs) hv

theorem bBv {o:Oper} {f:Operand} {args:Array Operand} {tys:Array TypeId} {fid:Nat} {caps first:List AV} {xs args':List AV} {sm r:aN} {Q:AV→aN→Prop} {fn:Func}
  (ho:o.op=.call ⟨.value f,args,tys⟩) (hf:ev t f=.fn (.func fid) first caps) (hfn:P.funcs[fid]?=some fn) (hb:fn.body.isNone=false) (hnm:(fn.name == "runtime.NumGoroutine")=false)
  (hc:mA P fid args' sm Q) (hxs:first++aUk t args.toList++caps=xs)
  (hv:∀ w m i vs,nY w m i s→VL m i xs vs→nY w m i (sm++r)∧VL m i args' vs) (hid:∀ p∈sm++r,∃ q∈s,q.1=p.1) :
  sM P o t s (fun v z=>∃ z1,Q v z1∧z=z1++r):=by
 intro a w m i hr hop K Q' hK
 rw [ho] at hop
 have v1:=yT (x:=f) hop (by simp [Op.operands,Call.operands])
 rw [hf] at v1
 obtain ⟨fs,cs,e1,e2,e3⟩:=v1
 have hargs:VL m i (aUk t args.toList) (args.toList.map a.eval):=VL.map_ev _ fun k hk=>hop k (by simp [Op.operands,Call.operands]; exact .inr (by simpa using hk))
 obtain ⟨hr2,hall⟩:=hv w m i _ hr (hxs ▸ (e2.append hargs).append e3)
 unfold Oper.wp
 have hrun:(execOp a.eval o).run P w=.ok (.enter fid (fs++args.toList.map a.eval++cs).toArray) w:=by
  have harr:fs.toArray++Array.map a.eval args++cs.toArray=(fs++args.toList.map a.eval++cs).toArray:=by
   apply Array.toList_inj.1; simp
  rw [← harr]
  simp only [execOp,ho,resolve,e1,Deferred.ofValue,invoke,Sem.run_bind,Sem.run_pure,Result.andThen_ok,aOY hfn hb hnm]
 rw [hrun]
 refine ((hc.frame (List.Perm.refl _)) w m i _ hr2 hall).mono ?_
 rintro e w' ⟨v,av,s',m',i',rfl,q,hv,hr',hst⟩
 exact hK v w' av s' m' i' q hv hr' ((Step.same hid).trans hst)
end
end Go.Am
namespace Go.Sx
open Go Go.Am

/-! ### keys -/
def aQg (key:Nat) (o:OB):List (Nat×OB)→List (Nat×OB)
 | []=>[]
 | p :: l=>if Nat.beq key p.1 then (key,o) :: l else p :: aQg key o l
def aNy (key:Nat):List (Nat×OB)→List (Nat×OB)
 | []=>[]
 | p :: l=>if Nat.beq key p.1 then l else p :: aNy key l
def aND (key:Nat):List (Nat×OB)→Nat
 | []=>0
 | p :: l=>if Nat.beq key p.1 then 0 else aND key l+1
theorem wE {ρ:bX} {ids:jP} {key:Nat} {o o':OB}:∀ {l:List (Nat×OB)},lk l key=some o →
  (bL l ρ ids)[aND key l]?=some (ids key,dU ρ ids o)∧(bL l ρ ids).set (aND key l) (ids key,dU ρ ids o')=bL (aQg key o' l) ρ ids∧(bL l ρ ids).eraseIdx (aND key l)=bL (aNy key l) ρ ids
 | [],h=>by simp [lk] at h
 | (k',u) :: l,h=>by
  unfold lk at h
  by_cases e:key=k'
  ·subst e
   rw [eE,if_pos rfl] at h
   cases h
   exact ⟨by simp [aND,bL],by simp [aND,aQg,bL],by simp [aND,aNy,bL]⟩
  ·rw [fW e] at h
   obtain ⟨h1,h2,h3⟩:=wE (ρ:=ρ) (ids:=ids) (o':=o') (l:=l) h
   have hi:aND key ((k',u) :: l)=aND key l+1:=by simp [aND,fW e]
   rw [hi]
   refine ⟨by simpa [bL] using h1,?_,?_⟩
   ·simp only [aQg,fW e,bL,List.map_cons,List.set_cons_succ]
    simp only [bL] at h2
    rw [h2]; rfl
   ·simp only [aNy,fW e,bL,List.map_cons,List.eraseIdx_cons_succ]
    simp only [bL] at h3
    rw [h3]; rfl
/-! ### names anew -/
mutual
def aBy (fv fk:Nat→Nat):SV→SV
 | .var j=>.var (fv j)
 | .len j=>.len (fv j)
 | .int k n=>.int k n
 | .bool b=>.bool b
 | .str l=>.str l
 | .nilp=>.nilp
 | .nils=>.nils
 | .nilf=>.nilf
 | .nilm=>.nilm
 | .und=>.und
 | .any=>.any
 | .ptr cs=>.ptr (aCp fv fk cs)
 | .slc cs n f=>.slc (aCp fv fk cs) n f
 | .ref k o=>.ref (fk k) o
 | .elt k n i=>.elt (fk k) n (aBy fv fk i)
 | .row k j=>.row (fk k) (fv j)
 | .fn f a b=>.fn f (aCp fv fk a) (aCp fv fk b)
 | .mp k=>.mp (fk k)
 | .it k=>.it (fk k)
 | .agg cs=>.agg (aCp fv fk cs)
 | .tup cs=>.tup (aCp fv fk cs)
def aCp (fv fk:Nat→Nat):List SV→List SV
 | []=>[]
 | x :: xs=>aBy fv fk x :: aCp fv fk xs
end
def aQN (fv fk:Nat→Nat):OB→OB
 | .cells e n cs f=>.cells e n (aCp fv fk cs) f
 | .list e j none=>.list e (fv j) none
 | .list e j (some z)=>.list e (fv j) (some (fv z))
 | .map j=>.map (fv j)
 | .iter j p=>.iter (fv j) (fv p)
 | .glob b j=>.glob b (fv j)
def aWW (fv fk:Nat→Nat):List (Nat×OB)→List (Nat×OB)
 | []=>[]
 | p :: l=>(fk p.1,aQN fv fk p.2) :: aWW fv fk l

section
variable {fv fk:Nat→Nat} {ρ ρ':bX} {ids ids':jP} (hv:∀ j,ρ' (fv j)=ρ j) (hk:∀ k,ids' (fk k)=ids k)
include hv in
theorem bB6 (x:SV):intOf ρ' (aBy fv fk x)=intOf ρ x:=by
 cases x <;> simp only [aBy,intOf,hv]
include hv hk
mutual
theorem aXO:∀ (x:SV),aL ρ' ids' (aBy fv fk x)=aL ρ ids x
 | .var j=>by simp only [aBy,aL,hv]
 | .len j=>by simp only [aBy,aL,hv]
 | .int _ _ | .bool _ | .str _ | .nilp | .nils | .nilf | .nilm | .und | .any=>by simp only [aBy,aL]
 | .ptr cs=>by simp only [aBy,aL]; rw [aAH cs]
 | .slc cs _ _=>by simp only [aBy,aL]; rw [aAH cs]
 | .agg cs=>by simp only [aBy,aL]; rw [aAH cs]
 | .tup cs=>by simp only [aBy,aL]; rw [aAH cs]
 | .ref k o=>by simp only [aBy,aL,hk]
 | .mp k=>by simp only [aBy,aL,hk]
 | .it k=>by simp only [aBy,aL,hk]
 | .row k j=>by simp only [aBy,aL,hk,hv]
 | .elt k n i=>by simp only [aBy,aL,hk]; rw [bB6 hv]
 | .fn f a b=>by simp only [aBy,aL]; rw [aAH a,aAH b]
theorem aAH:∀ (x:List SV),bQ ρ' ids' (aCp fv fk x)=bQ ρ ids x
 | []=>by have _:=hv; have _:=hk; simp only [aCp,bQ]
 | x :: xs=>by simp only [aCp,bQ]; rw [aXO x,aAH xs]
end
theorem aTD:∀ (x:List SV),(aCp fv fk x).length=x.length
 | []=>by have _:=hv; have _:=hk; rfl
 | x :: xs=>by simp [aCp,aTD xs]
theorem bDu (o:OB):dU ρ' ids' (aQN fv fk o)=dU ρ ids o:=by
 cases o with
 | cells e n cs f=>simp only [aQN,dU]; rw [aAH hv hk,aTD hv hk]
 | list e j fz =>
  cases fz with
  | none=>simp only [aQN,dU,hv]; rfl
  | some z=>simp only [aQN,dU,hv,aCb]
 | map j=>simp only [aQN,dU,hv]
 | iter j p=>simp only [aQN,dU,hv]
 | glob b j=>simp only [aQN,dU,hv]
theorem aVW:∀ (l:List (Nat×OB)),bL (aWW fv fk l) ρ' ids'=bL l ρ ids
 | []=>rfl
 | p :: l=>by
  have ih:=aVW l
  simp only [bL] at ih
  simp only [aWW,bL,List.map_cons,List.cons.injEq]
  exact ⟨by rw [hk,bDu hv hk],ih⟩
end

/-! ### what is known of a function -/
structure aS where
 fid:Nat
 Γ:List Ty
 args:List SV
 sto:List (Nat×OB):=[]
 nk:Nat:=0
 nr:Nat:=0
 Δ:List Ty
 res:SV
 sto':List (Nat×OB):=[]
 nk':Nat:=0
 f:Nat→Vals Γ→Option (Vals Δ)

structure aE (P:Program) (g:aS) (fuel:Nat):Prop where
 fn:∃ fn,P.funcs[g.fid]?=some fn∧fn.body.isNone=false∧(fn.name == "runtime.NumGoroutine")=false
 ok:∀ (ids:jP) (x:Vals g.Γ) (y:Vals g.Δ),g.f fuel x=some y→mA P g.fid (bQ (iE g.Γ x) ids g.args) (bL g.sto (iE g.Γ x) ids)
  (fun av s=>∃ ids',(∀ k,k<g.nk→ids' k=ids k)∧av=aL (iE g.Δ y) ids' g.res∧s=bL g.sto' (iE g.Δ y) ids')

def bF1 (nk:Nat) (K:xM):Nat→Bool
 | 0=>true
 | n+1=>(match lk K n with
  | some key=>Nat.blt key nk
  | none=>false) && bF1 nk K n
theorem bAw {nk:Nat} {K:xM}:∀ {n k:Nat},bF1 nk K n=true→k<n→∃ key,lk K k=some key∧key<nk
 | 0,_,_,h=>by omega
 | n+1,k,h,hk=>by
  simp only [bF1,Bool.and_eq_true] at h
  by_cases e:k=n
  ·subst e
   have h1:=h.1
   split at h1
   ·rename_i key hl; exact ⟨key,hl,mX h1⟩
   ·cases h1
  ·exact bAw h.2 (by omega)

def aLD (as:List SV) (fid:Nat) (sto:List (Nat×OB)):List aS→Option (aS×Mt)
 | []=>none
 | g :: l=>if Nat.beq g.fid fid then match mt g.args as g.sto g.Γ.length [] sto with
  | some m=>some (g,m)
  | none=>aLD as fid sto l
  else aLD as fid sto l
theorem aNR {as:List SV} {fid:Nat} {sto:List (Nat×OB)}:∀ {env:List aS} {g:aS} {m:Mt},aLD as fid sto env=some (g,m)→g∈env∧g.fid=fid∧mt g.args as g.sto g.Γ.length [] sto=some m
 | [],_,_,h=>by simp [aLD] at h
 | g' :: l,g,m,h=>by
  unfold aLD at h
  split at h
  ·rename_i hb
   split at h
   ·rename_i m' hm
    cases h
    exact ⟨List.mem_cons_self,Nat.eq_of_beq_eq_true hb,hm⟩
   ·obtain ⟨h1,h2⟩:=aNR h; exact ⟨List.mem_cons_of_mem _ h1,h2⟩
  ·obtain ⟨h1,h2⟩:=aNR h; exact ⟨List.mem_cons_of_mem _ h1,h2⟩

def bED (K:xM) (nkIn nk:Nat) (k:Nat):Nat:=if Nat.blt k nkIn then (match lk K k with
 | some key=>key
 | none=>0) else nk+(k - nkIn)

section
variable {P:Program} {T:TT} {R:Type}

def HOk (P:Program) (o:Oper) (st:St) (ρ:bX) (ids:jP) (kk:SV→St→bX→Option R) (r:R):Prop :=
 ∃ Rr:AV→aN→Prop,sM P o (eC st ρ ids) (bL st.sto ρ ids) Rr ∧
  ∀ av s',Rr av s'→∃ sv st' ρ' ids',kk sv st' ρ'=some r∧av=aL ρ' ids' sv∧s'=bL st'.sto ρ' ids'∧eC st' ρ' ids'=eC st ρ ids ∧
   (∀ key ob,lk st.sto key=some ob→lk st'.sto key=some ob→(ids' key,dU ρ' ids' ob)=(ids key,dU ρ ids ob))∧jP.agree st.nk ids ids'∧st.nk≤st'.nk

def bCZ (env:List aS) (fuel:Nat) (st:St) (ρ:bX) (fid:Nat) (as:List SV) (kk:SV→St→bX→Option R):Option R :=
 match aLD as fid st.sto env with
 | none=>none
 | some (g,m)=>(match (bF1 st.nk m.K g.nk && (st.ok && aJh st.nv st.nk m.rest):Bool) with
  | true=>(vals m.sto ρ m.V 0 g.Γ).bind fun x=>(g.f fuel x).bind fun y =>
    kk (aBy (fun i=>st.nv+i) (bED m.K g.nk st.nk) g.res)
     { live:=st.live,sto:=aWW (fun i=>st.nv+i) (bED m.K g.nk st.nk) g.sto'++m.rest,nv:=st.nv+g.Δ.length,nk:=st.nk+(g.nk' - g.nk) } (vH ρ st.nv (dyns g.Δ y))
  | false=>none)

theorem rW {nv nk:Nat}:∀ {l:List (Nat×OB)} {k:Nat} {o:OB},aJh nv nk l=true→lk l k=some o→k<nk∧OB.ok nv nk o=true
 | [],_,_,_,h=>by simp [lk] at h
 | p :: l,k,o,h,e=>by
  simp only [aJh,Bool.and_eq_true] at h
  unfold lk at e
  by_cases ek:k=p.1
  ·subst ek
   rw [eE,if_pos rfl] at e
   cases e
   exact ⟨mX h.1.1,h.1.2⟩
  ·rw [fW ek] at e
   exact rW h.2 e

theorem bDm {env:List aS} {fuel:Nat} (henv:∀ g∈env,aE P g fuel) {o:Oper} {st:St} {ρ:bX} {ids:jP} {kk:SV→St→bX→Option R} {r:R}
  {f:Operand} {args:Array Operand} {tys:Array TypeId} {fid:Nat} {first caps as:List SV} (ho:o.op=.call ⟨.value f,args,tys⟩) (hf:iD st.live f=some (.fn fid first caps)) (ha:aWg st.live args.toList=some as)
  (h:bCZ env fuel st ρ fid (first++as++caps) kk=some r):HOk P o st ρ ids kk r:=by
 unfold bCZ at h
 split at h
 ·cases h
 ·rename_i g m hfind
  obtain ⟨hg,hfid,hm⟩:=aNR hfind
  split at h
  ·rename_i hb
   simp only [Bool.and_eq_true] at hb
   obtain ⟨hkall,hok,hrok⟩:=hb
   simp only [St.ok,Bool.and_eq_true] at hok
   obtain ⟨x,hx,h⟩:=aM h
   obtain ⟨y,hy,h⟩:=aM h
   obtain ⟨hchk,hasg,⟨used,hsto⟩,ks,hfrz⟩:=bD7 hm
   obtain ⟨⟨fn,hfn,hbody,hname⟩,hcall⟩:=henv g hg
   have hc:=hcall (aIm m.K ids) x y hy
   subst hfid
   have hshift:jA (fun _=>.any) (bL st.sto ρ ids) (fun _=>.any) (bL m.sto ρ ids):=by
    rw [hfrz]
    have:=jA.frzL (t:=fun _=>.any) (ρ:=ρ) (ids:=ids) ks st.sto []
    simpa using this
   refine ⟨_,sM.shift hshift (bBv (sm:=bL g.sto (iE g.Γ x) (aIm m.K ids)) (r:=bL m.rest ρ ids) (args':=bQ (iE g.Γ x) (aIm m.K ids) g.args) (xs:=bQ ρ ids (first++as++caps)) (fid:=g.fid) (first:=bQ ρ ids first) (caps:=bQ ρ ids caps)
    ho (by rw [bA hf]; simp only [aL]) hfn hbody hname hc ?_ ?_ ?_),?_⟩
   ·unfold aUk
    rw [aLs ha]
    simp only [cH,List.map_append]
   ·intro w mu i vs hr hvl
    obtain ⟨q1,q2,q3,q4,q5⟩:=aTw hr hx hasg hsto
    exact ⟨q3,q2 _ _ hchk _ hvl⟩
   ·intro p hp
    -- the numbers are the same; they do not hang on the world
    obtain ⟨h1,h2⟩:=aP4 hsto
    have hfit:∀ (l u:List (Nat×OB)),Fits m.V m.K l u→∀ p∈bL l (iE g.Γ x) (aIm m.K ids),∃ q∈bL u ρ ids,q.1=p.1:=by
     intro l
     induction l with
     | nil=>intro u _ p hp; cases hp
     | cons c l ih =>
      intro u hu p hp
      obtain ⟨b,bs,rfl,k1,k2,k3⟩:=hu
      simp only [bL,List.map_cons,List.mem_cons] at hp
      rcases hp with rfl | hp
      ·exact ⟨(ids b.1,dU ρ ids b.2),by simp [bL],(aOa k1).symm⟩
      ·obtain ⟨q,hq,e⟩:=ih bs k3 p hp
       exact ⟨q,by simp only [bL,List.map_cons]; exact List.mem_cons_of_mem _ hq,e⟩
    have hperm:(bL m.sto ρ ids).Perm (bL used ρ ids++bL m.rest ρ ids):=by
     unfold bL; rw [← List.map_append]; exact h1.map _
    rcases List.mem_append.1 hp with hp | hp
    ·obtain ⟨q,hq,e⟩:=hfit _ _ h2 p hp
     exact ⟨q,hperm.mem_iff.2 (List.mem_append_left _ hq),e⟩
    ·exact ⟨p,hperm.mem_iff.2 (List.mem_append_right _ hp),rfl⟩
   ·rintro av s' ⟨z1,⟨idsS,hids,rfl,rfl⟩,rfl⟩
    let ids'':jP:=fun key=>if key<st.nk then ids key else idsS (g.nk+(key - st.nk))
    have hagI:jP.agree st.nk ids ids'':=fun j hj=>by simp [ids'',hj]
    have hagR:=jK ρ st.nv (dyns g.Δ y)
    have hv:∀ j,vH ρ st.nv (dyns g.Δ y) (st.nv+j)=iE g.Δ y j:=fun j=>by
     unfold vH iE
     rw [if_neg (by simp)]
     congr 1
     omega
    have hk:∀ k,ids'' (bED m.K g.nk st.nk k)=idsS k:=fun k=>by
     unfold bED
     by_cases hlt:k<g.nk
     ·obtain ⟨key,hkey,hlt2⟩:=bAw hkall hlt
      rw [if_pos (by simpa using hlt),hkey]
      simp only [ids'',hlt2,if_true]
      rw [hids k hlt,aOa hkey]
     ·rw [if_neg (by simpa using hlt)]
      simp only [ids'']
      rw [if_neg (by omega)]
      congr 1
      omega
    refine ⟨_,_,_,ids'',h,(aXO hv hk g.res).symm,?_,rK (st:=st) hagR hagI hok.1,?_,hagI,Nat.le_add_right _ _⟩
    ·simp only
     have e1:=aVW hv hk g.sto'
     have e2:=pK hagR hagI hrok
     unfold bL at e1 e2 ⊢
     rw [List.map_append,e1,e2]
    ·intro key ob h1 h2
     obtain ⟨q1,q2⟩:=rW hok.2 h1
     rw [hagI key q1,aAu hagR hagI q2]
  ·cases h
end
end Go.Sx

