/- Joined texts: X1, X2, X4d, Y0, Y1, Y2. -/
import Derived.Test.YtjhfgiieicloeaaGreatDoorGq
/- The parser of types, by itself: keys, names, what it does behind an error. -/
namespace Go.Proofs.YtjhfgiieicloeaaGreatDoor
open Go Go.Am Go.Sx
abbrev aI:=Int×List UInt8×Int×Int
def aJI (l:List aI) (i:Int):Option aI:=if 0≤i∧i<(l.length:Int) then aU l i else none
def bE (l:List aI) (i:Int) (t:List UInt8):Bool:=match aJI l i with
 | some k=>decide (k.1=3) && decide (k.2.1=t)
 | none=>false
def pX (l:List aI) (i:Int):List UInt8×Bool:=match aJI l i with
 | some k=>if k.1=1∧mG k.2.1=true then (k.2.1,true) else ([],false)
 | none=>([],false)
def aDq (l:List aI) (i:Int):List UInt8×Bool:=match aJI l i with
 | some k=>if k.1=1∧lgS k.2.1=true then (k.2.1,true) else ([],false)
 | none=>([],false)
theorem aBZ {l:List aI} {i:Int} (h:¬ (0≤i∧i<(l.length:Int))):aJI l i=none:=if_neg h
theorem aFm {l:List aI} {i:Int} (h:0≤i∧i<(l.length:Int)):∃ k,k∈l∧aU l i=some k∧aJI l i=some k:=by
 have hlt:i.toNat<l.length:=by omega
 exact ⟨l[i.toNat],List.getElem_mem hlt,aXP h.1 hlt,by unfold aJI; rw [if_pos h]; exact aXP h.1 hlt⟩
theorem aX {l:List aI} {i:Int} {t:List UInt8} (h:bE l i t=true):0≤i∧i<(l.length:Int):=by
 by_cases hi:0≤i∧i<(l.length:Int)
 ·exact hi
 ·unfold bE at h; rw [aBZ hi] at h; cases h
theorem aLW {l:List aI} {i:Int} (h:(pX l i).2=true):0≤i∧i<(l.length:Int):=by
 by_cases hi:0≤i∧i<(l.length:Int)
 ·exact hi
 ·unfold pX at h; rw [aBZ hi] at h; cases h
theorem aW9 {l:List aI} {i:Int} (h:(aDq l i).2=true):0≤i∧i<(l.length:Int):=by
 by_cases hi:0≤i∧i<(l.length:Int)
 ·exact hi
 ·unfold aDq at h; rw [aBZ hi] at h; cases h
section
theorem bDR {l:List aI} (i:Int):Ev (fun K=>aFJ K l i) (decide (0≤i∧i<(l.length:Int))):=by
 refine Ev.congr (f:=fun K=>_) ?_ (fun k=>by rw [aFJ])
 refine Ev.d (fun h=>Ev.pure' ?_) (fun h=>Ev.pure' (by rw [decide_eq_false (fun h'=>h h'.1)]))
 by_cases h2:i<(l.length:Int)
 ·rw [decide_eq_true h2,decide_eq_true ⟨h,h2⟩]
 ·rw [decide_eq_false h2,decide_eq_false fun h'=>h2 h'.2]
theorem aCS (l:List aI) (i:Int) (t:List UInt8):Ev (fun K=>kT K l i t) (bE l i t):=by
 refine Ev.congr (f:=fun K=>_) ?_ (fun k=>by rw [kT])
 refine Ev.bind (bDR i) ?_
 unfold bE
 by_cases h:0≤i∧i<(l.length:Int)
 ·obtain ⟨k,_,h1,h2⟩:=aFm h
  rw [h2]
  refine Ev.dT h (Ev.opt h1 (Ev.d (fun e=>Ev.opt h1 (Ev.pure' ?_)) (fun e=>Ev.pure' ?_)))
  ·simp only [decide_eq_true e,Bool.true_and]
  ·simp only [decide_eq_false e,Bool.false_and]
 ·rw [aBZ h]; exact Ev.dF h Ev.pure
theorem aDd (l:List aI) (i:Int):Ev (fun K=>vW K l i) (pX l i):=by
 refine Ev.congr (f:=fun K=>_) ?_ (fun k=>by rw [vW])
 refine Ev.bind (bDR i) ?_
 unfold pX
 by_cases h:0≤i∧i<(l.length:Int)
 ·obtain ⟨k,_,h1,h2⟩:=aFm h
  rw [h2]
  refine Ev.nF h (Ev.opt h1 (Ev.n (fun e=>Ev.pure' ?_) (fun e=>Ev.opt h1 (Ev.bind (hU _) ?_))))
  ·simp only []; rw [if_neg fun h'=>e h'.1]
  ·simp only []
   cases hc:mG k.2.1 with
   | false=>rw [if_neg (by simp)]; exact Ev.isT rfl Ev.pure
   | true=>rw [if_pos ⟨e,rfl⟩]; exact Ev.isF rfl (Ev.opt h1 Ev.pure)
 ·rw [aBZ h]; exact Ev.nT h Ev.pure
theorem aKU (l:List aI) (i:Int):Ev (fun K=>aAF K l i) (aDq l i):=by
 refine Ev.congr (f:=fun K=>_) ?_ (fun k=>by rw [aAF])
 refine Ev.bind (bDR i) ?_
 unfold aDq
 by_cases h:0≤i∧i<(l.length:Int)
 ·obtain ⟨k,_,h1,h2⟩:=aFm h
  rw [h2]
  refine Ev.nF h (Ev.opt h1 (Ev.n (fun e=>Ev.pure' ?_) (fun e=>Ev.opt h1 (Ev.bind (aBe _) ?_))))
  ·simp only []; rw [if_neg fun h'=>e h'.1]
  ·simp only []
   cases hc:lgS k.2.1 with
   | false=>rw [if_neg (by simp)]; exact Ev.isT rfl Ev.pure
   | true=>rw [if_pos ⟨e,rfl⟩]; exact Ev.isF rfl (Ev.opt h1 Ev.pure)
 ·rw [aBZ h]; exact Ev.nT h Ev.pure
end
/-! ### the program's parser, behind an error -/
section
variable (l:List aI) (i e:Int) (he:e≠0)
include he
theorem aLS (t:List UInt8):Ev (fun K=>bK K l i e t) (false,l,i,e) :=
 Ev.congr (f:=fun K=>_) (Ev.nT he Ev.pure) (fun k=>by rw [bK])
theorem bEB (c:Int):Ev (fun K=>cN K l i e c) (l,i,e) :=
 Ev.congr (f:=fun K=>_) (Ev.dF he Ev.pure) (fun k=>by rw [cN])
theorem aHQ (t:List UInt8):Ev (fun K=>dM K l i e t) (l,i,e):=by
 refine Ev.congr (f:=fun K=>_) ?_ (fun k=>by rw [dM])
 refine Ev.bind (aLS l i e he t) ?_
 refine Ev.isT rfl ?_
 exact Ev.bind (bEB l i e he 6) Ev.pure
theorem bDv:Ev (fun K=>bS K l i e) (.nil,l,i,e) :=
 Ev.step (fun k=>by rw [bS]) (Ev.nT he Ev.pure)
theorem bBg (t:Tr) (s:List UInt8) (c:Int):Ev (fun K=>kE K l i e t s c) (t,l,i,e):=by
 refine Ev.step (fun k=>by rw [kE]) ?_
 refine Ev.bind (aLS l i e he s) ?_
 exact Ev.isT rfl Ev.pure
theorem aYi (t:Tr) (s:List UInt8) (c:Int):Ev (fun K=>iG K l i e t s c) (t,l,i,e):=by
 refine Ev.step (fun k=>by rw [iG]) ?_
 refine Ev.bind (aLS l i e he s) ?_
 exact Ev.isT rfl Ev.pure
theorem aYW:Ev (fun K=>bN K l i e) (.nil,l,i,e) :=
 Ev.step (fun k=>by rw [bN]) (Ev.bind (bDv l i e he) (Ev.bind (bBg l i e he _ _ _) Ev.pure))
theorem bA9:Ev (fun K=>bP K l i e) (.nil,l,i,e) :=
 Ev.step (fun k=>by rw [bP]) (Ev.bind (aYW l i e he) (Ev.bind (aYi l i e he _ _ _) Ev.pure))
theorem aXM:Ev (fun K=>eY K l i e) ([],l,i,e):=by
 refine Ev.step (fun k=>by rw [eY]) ?_
 exact Ev.step (fun k=>by rw [dE]) (Ev.dF he Ev.pure)
theorem aRl {out:List Tr} (hout:out.length≤1048576) (s:List UInt8) (sn:List (List UInt8×Bool)):∃ out',Ev (fun K=>bV K out s l i e sn) (out',l,i,e):=by
 refine ⟨out++[.node 8 0 s [] [.nil]],Ev.step (fun k=>by rw [bV]) ?_⟩
 refine Ev.bind (aHQ l i e he _) (Ev.bind (bA9 l i e he) (Ev.bind (a:=.node 8 0 s [] [.nil]) ⟨0,fun _ _=>rfl⟩ (Ev.opt (cM (by simp; omega)) (Ev.bind (aLS l i e he _) ?_))))
 exact Ev.isT rfl Ev.pure
theorem aYy (s:List UInt8):∃ t,Ev (fun K=>cC K s l i e) (t,l,i,e):=by
 refine ⟨.node 7 0 s [] [],Ev.step (fun k=>by rw [cC]) ?_⟩
 exact Ev.bind (aHQ l i e he _) (Ev.bind (aXM l i e he) (Ev.bind (aHQ l i e he _) (Ev.bind (a:=.node 7 0 s [] []) ⟨0,fun _ _=>rfl⟩ Ev.pure)))
end
theorem aGI (c:Int) (s:List UInt8) (ks:List Tr):Ev (fun K=>pJ K c s ks) (.node c 0 s [] ks):=⟨0,fun _ _=>rfl⟩
theorem wr1 {i:Nat} (h:i≤40000):IntKind.i64.wrap ((i:Int)+1)=((i+1:Nat):Int):=cX (by omega)
theorem wr2 {i:Nat} (h:i≤40000):IntKind.i64.wrap ((i:Int)+2)=((i+2:Nat):Int):=by rw [nC (by omega) (by omega)]; omega
theorem aHG {l:List aI} {i:Int} {t:List UInt8} (h:bE l i t=false):Ev (fun K=>bK K l i 0 t) (false,l,i,0):=by
 refine Ev.congr (f:=fun K=>_) ?_ (fun k=>by rw [bK])
 refine Ev.nF rfl ?_
 refine Ev.bind (aCS l i t) ?_
 rw [h]
 exact Ev.isT rfl Ev.pure
theorem aW4 {l:List aI} {i:Int} {t:List UInt8} (h:bE l i t=false):Ev (fun K=>dM K l i 0 t) (l,i,6):=by
 refine Ev.congr (f:=fun K=>_) ?_ (fun k=>by rw [dM])
 refine Ev.bind (aHG h) ?_
 refine Ev.isT rfl ?_
 refine Ev.bind (a:=(l,i,6)) (Ev.congr (f:=fun K=>_) (Ev.dT rfl Ev.pure) (fun k=>by rw [cN])) Ev.pure
theorem bEH {l:List aI} {i:Int} {s:List UInt8} (h:pX l i=(s,false)):Ev (fun K=>fA K l i 0) ([],l,i,6):=by
 have hn:=aDd l i
 rw [h] at hn
 refine Ev.congr (f:=fun K=>_) ?_ (fun k=>by rw [fA])
 refine Ev.bind hn ?_
 refine Ev.nF rfl ?_
 refine Ev.isT rfl ?_
 exact Ev.bind (a:=(l,i,6)) (Ev.congr (f:=fun K=>_) (Ev.dT rfl Ev.pure) (fun k=>by rw [cN])) Ev.pure
section
variable {l:List aI} (hl:l.length≤20000)
include hl
theorem aLg {i:Nat} {t:List UInt8} (h:bE l i t=true):Ev (fun K=>bK K l (i:Int) 0 t) (true,l,((i+1:Nat):Int),0):=by
 have:=aX h
 refine Ev.congr (f:=fun K=>_) ?_ (fun k=>by rw [bK])
 refine Ev.nF rfl ?_
 refine Ev.bind (aCS l i t) ?_
 rw [h]
 refine Ev.isF rfl ?_
 exact Ev.pure' (by rw [wr1 (by omega)])
theorem aKO {i:Nat} {t:List UInt8} (h:bE l i t=true):Ev (fun K=>dM K l (i:Int) 0 t) (l,((i+1:Nat):Int),0):=by
 refine Ev.congr (f:=fun K=>_) ?_ (fun k=>by rw [dM])
 refine Ev.bind (aLg hl h) ?_
 exact Ev.isF rfl Ev.pure
theorem aPW {i:Nat} {s:List UInt8} (h:pX l i=(s,true)):Ev (fun K=>fA K l (i:Int) 0) (s,l,((i+1:Nat):Int),0):=by
 have:=aLW (l:=l) (i:=i) (by rw [h])
 have hn:=aDd l i
 rw [h] at hn
 refine Ev.congr (f:=fun K=>_) ?_ (fun k=>by rw [fA])
 refine Ev.bind hn ?_
 refine Ev.nF rfl ?_
 refine Ev.isF rfl ?_
 exact Ev.pure' (by rw [wr1 (by omega)])
end
end Go.Proofs.YtjhfgiieicloeaaGreatDoor

/- The parser of types as a plain function of the tokens. -/
namespace Go.Proofs.YtjhfgiieicloeaaGreatDoor
open Go Go.Am Go.Sx
mutual
def aER (l:List aI):Nat→Nat→Tr×Nat×Int
 | 0,i=>(.nil,i,6)
 | n+1,i=>match aJn l n i with
  | (a,j,e)=>if e=0 then (if bE l j [45,62]=true then (match aER l n (j+1) with | (b,j2,e2)=>(if e2=0 then .node 5 0 [] [] [a,b] else .nil,j2,e2)) else (a,j,0)) else (.nil,j,e)
def aJn (l:List aI):Nat→Nat→Tr×Nat×Int
 | 0,i=>(.nil,i,6)
 | n+1,i=>match aHK l n i with
  | (a,j,e)=>if e=0 then (if bE l j [42]=true then (match aJn l n (j+1) with | (b,j2,e2)=>(if e2=0 then .node 6 0 [] [] [a,b] else .nil,j2,e2)) else (a,j,0)) else (.nil,j,e)
def aHK (l:List aI):Nat→Nat→Tr×Nat×Int
 | 0,i=>(.nil,i,6)
 | n+1,i =>
  if (aDq l i).2=true then (.node 4 0 (aDq l i).1 [] [],i+1,0)
  else if bE l i [105,110,116]=true then (.node 1 0 [] [] [],i+1,0)
  else if bE l i [98,111,111,108]=true then (.node 2 0 [] [] [],i+1,0)
  else if bE l i [117,110,105,116]=true then (.node 3 0 [] [] [],i+1,0)
  else if bE l i [40]=true then (match aER l n (i+1) with | (t,j,e)=>if e=0 then (if bE l j [41]=true then (t,j+1,0) else (.nil,j,6)) else (.nil,j,e))
  else if bE l i [109,117]=true then
   (if (pX l ((i+1:Nat):Int)).2=true then
    (if bE l ((i+2:Nat):Int) [123]=true then (match aHM l n (i+3) [] with
     | (c,j,e)=>if e=0 then (if bE l j [125]=true then (.node 7 0 (pX l ((i+1:Nat):Int)).1 [] c,j+1,0) else (.nil,j,6)) else (.nil,j,e))
    else (.nil,i+2,6))
   else (.nil,i+1,6))
  else (.nil,i,6)
def aHM (l:List aI):Nat→Nat→List Tr→List Tr×Nat×Int
 | 0,i,_=>([],i,6)
 | n+1,i,out =>
  if (pX l i).2=true then
   (if (pX l i).1∈out.map nameOf then ([],i,9)
   else if bE l ((i+1:Nat):Int) [111,102]=true then (match aER l n (i+2) with
    | (t,j,e)=>if e=0 then (if bE l j [124]=true then aHM l n (j+1) (out++[.node 8 0 (pX l i).1 [] [t]]) else (out++[.node 8 0 (pX l i).1 [] [t]],j,0)) else ([],j,e))
   else ([],i+1,6))
  else ([],i,6)
end
def PS (l:List aI) (f:Nat→List aI→Int→Int→Option (Tr×List aI×Int×Int)) (i:Nat) (g:Tr×Nat×Int):Prop :=
 ∃ t',Ev (fun K=>f K l (i:Int) 0) (t',l,((g.2.1:Nat):Int),g.2.2)∧(g.2.2=0→t'=g.1∧i<g.2.1∧g.1.w+i≤g.2.1)∧i≤g.2.1∧g.2.1≤l.length
def PSC (l:List aI) (i:Nat) (out:List Tr) (g:List Tr×Nat×Int):Prop :=
 ∀ sn:List (List UInt8×Bool),(∀ s,(jD sn s).getD false=decide (s∈out.map nameOf))→out.length≤i →
  ∃ c',Ev (fun K=>dE K out l (i:Int) 0 sn) (c',l,((g.2.1:Nat):Int),g.2.2)∧(g.2.2=0→c'=g.1∧i<g.2.1∧wL g.1+i≤wL out+g.2.1)∧i≤g.2.1∧g.2.1≤l.length
section
variable {l:List aI} (hl:l.length≤20000)
include hl
theorem bFe {n i:Nat} (hat:PS l bS i (aHK l n i)) (hpr:∀ j,i<j→j≤l.length→PS l bN j (aJn l n j)):PS l bN i (aJn l (n+1) i):=by
 rw [aJn]
 generalize aHK l n i=g at *
 obtain ⟨t,j,er⟩:=g
 obtain ⟨t',h1,h5,h4,h3⟩:=hat
 simp only at h1 h5 h4 h3 ⊢
 by_cases he:er=0
 ·subst he
  obtain ⟨e1,e2,e3⟩:=h5 rfl
  subst e1
  rw [if_pos rfl]
  cases hk:bE l j [42] with
  | false =>
   rw [if_neg (by simp)]
   refine ⟨t',?_,fun _=>⟨rfl,e2,e3⟩,h4,h3⟩
   refine Ev.step (fun k=>by rw [bN]) ?_
   refine Ev.bind h1 ?_
   refine Ev.bind (a:=(t',l,(j:Int),0)) ?_ Ev.pure
   refine Ev.step (fun k=>by rw [kE]) ?_
   refine Ev.bind (aHG hk) ?_
   exact Ev.isT rfl Ev.pure
  | true =>
   rw [if_pos rfl]
   have hin:=aX hk
   have hp:=hpr (j+1) (by omega) (by omega)
   generalize aJn l n (j+1)=g2 at *
   obtain ⟨u,j',er'⟩:=g2
   obtain ⟨u',g1,g5,g4,g3⟩:=hp
   simp only at g1 g5 g4 g3 ⊢
   refine ⟨.node 6 0 [] [] [t',u'],?_,fun h=>?_,by simp only; omega,g3⟩
   ·refine Ev.step (fun k=>by rw [bN]) ?_
    refine Ev.bind h1 ?_
    refine Ev.bind (a:=(.node 6 0 [] [] [t',u'],l,(j':Int),er')) ?_ Ev.pure
    refine Ev.step (fun k=>by rw [kE]) ?_
    refine Ev.bind (aLg hl hk) ?_
    refine Ev.isF rfl ?_
    exact Ev.bind g1 (Ev.bind (aGI ..) Ev.pure)
   ·simp only at h ⊢
    obtain ⟨q1,q2,q3⟩:=g5 h
    subst q1
    rw [if_pos h]
    refine ⟨rfl,by omega,?_⟩
    rw [aJ,aD,aD,aK]; omega
 ·rw [if_neg he]
  refine ⟨t',?_,fun h=>absurd h he,h4,h3⟩
  refine Ev.step (fun k=>by rw [bN]) ?_
  refine Ev.bind h1 ?_
  exact Ev.bind (bBg l j er he _ _ _) Ev.pure
theorem bIn {n i:Nat} (hat:PS l bN i (aJn l n i)) (hpr:∀ j,i<j→j≤l.length→PS l bP j (aER l n j)):PS l bP i (aER l (n+1) i):=by
 rw [aER]
 generalize aJn l n i=g at *
 obtain ⟨t,j,er⟩:=g
 obtain ⟨t',h1,h5,h4,h3⟩:=hat
 simp only at h1 h5 h4 h3 ⊢
 by_cases he:er=0
 ·subst he
  obtain ⟨e1,e2,e3⟩:=h5 rfl
  subst e1
  rw [if_pos rfl]
  cases hk:bE l j [45,62] with
  | false =>
   rw [if_neg (by simp)]
   refine ⟨t',?_,fun _=>⟨rfl,e2,e3⟩,h4,h3⟩
   refine Ev.step (fun k=>by rw [bP]) ?_
   refine Ev.bind h1 ?_
   refine Ev.bind (a:=(t',l,(j:Int),0)) ?_ Ev.pure
   refine Ev.step (fun k=>by rw [iG]) ?_
   refine Ev.bind (aHG hk) ?_
   exact Ev.isT rfl Ev.pure
  | true =>
   rw [if_pos rfl]
   have hin:=aX hk
   have hp:=hpr (j+1) (by omega) (by omega)
   generalize aER l n (j+1)=g2 at *
   obtain ⟨u,j',er'⟩:=g2
   obtain ⟨u',g1,g5,g4,g3⟩:=hp
   simp only at g1 g5 g4 g3 ⊢
   refine ⟨.node 5 0 [] [] [t',u'],?_,fun h=>?_,by simp only; omega,g3⟩
   ·refine Ev.step (fun k=>by rw [bP]) ?_
    refine Ev.bind h1 ?_
    refine Ev.bind (a:=(.node 5 0 [] [] [t',u'],l,(j':Int),er')) ?_ Ev.pure
    refine Ev.step (fun k=>by rw [iG]) ?_
    refine Ev.bind (aLg hl hk) ?_
    refine Ev.isF rfl ?_
    exact Ev.bind g1 (Ev.bind (aGI ..) Ev.pure)
   ·simp only at h ⊢
    obtain ⟨q1,q2,q3⟩:=g5 h
    subst q1
    rw [if_pos h]
    refine ⟨rfl,by omega,?_⟩
    rw [aJ,aD,aD,aK]; omega
 ·rw [if_neg he]
  refine ⟨t',?_,fun h=>absurd h he,h4,h3⟩
  refine Ev.step (fun k=>by rw [bP]) ?_
  refine Ev.bind h1 ?_
  exact Ev.bind (aYi l j er he _ _ _) Ev.pure
theorem bFP {n i:Nat} (hi:i≤l.length) (hty:∀ j,i<j→j≤l.length→PS l bP j (aER l n j)) (hco:∀ j,i<j→j≤l.length→PSC l j [] (aHM l n j [])):PS l bS i (aHK l (n+1) i):=by
 rw [aHK]
 have hpL:=aKU l i
 have hin:=aW9 (l:=l) (i:=i)
 generalize aDq l i=L at *
 obtain ⟨s,b⟩:=L
 simp only at hin ⊢
 have one:∀ c nm,(Tr.node c 0 nm [] []).w=1:=fun c nm=>by rw [aJ,aK]
 cases b with
 | true =>
  have hin:=hin rfl
  rw [if_pos rfl]
  refine ⟨.node 4 0 s [] [],?_,fun _=>⟨rfl,by simp only; omega,by simp only [one]; omega⟩,by simp only; omega,by simp only; omega⟩
  refine Ev.step (fun k=>by rw [bS]) ?_
  refine Ev.nF rfl ?_
  refine Ev.bind hpL ?_
  refine Ev.isT rfl ?_
  exact Ev.bind (aGI ..) (Ev.pure' (by rw [wr1 (by omega)]))
 | false =>
  rw [if_neg (by simp)]
  cases k1:bE l i [105,110,116] with
  | true =>
   have hin:=aX k1
   rw [if_pos rfl]
   refine ⟨.node 1 0 [] [] [],?_,fun _=>⟨rfl,by simp only; omega,by simp only [one]; omega⟩,by simp only; omega,by simp only; omega⟩
   refine Ev.step (fun k=>by rw [bS]) ?_
   refine Ev.nF rfl ?_
   refine Ev.bind hpL ?_
   refine Ev.isF rfl ?_
   refine Ev.bind (aLg hl k1) ?_
   refine Ev.isT rfl ?_
   exact Ev.bind (aGI ..) Ev.pure
  | false =>
  rw [if_neg (by simp)]
  cases k2:bE l i [98,111,111,108] with
  | true =>
   have hin:=aX k2
   rw [if_pos rfl]
   refine ⟨.node 2 0 [] [] [],?_,fun _=>⟨rfl,by simp only; omega,by simp only [one]; omega⟩,by simp only; omega,by simp only; omega⟩
   refine Ev.step (fun k=>by rw [bS]) ?_
   refine Ev.nF rfl ?_
   refine Ev.bind hpL ?_
   refine Ev.isF rfl ?_
   refine Ev.bind (aHG k1) ?_
   refine Ev.isF rfl ?_
   refine Ev.bind (aLg hl k2) ?_
   refine Ev.isT rfl ?_
   exact Ev.bind (aGI ..) Ev.pure
  | false =>
  rw [if_neg (by simp)]
  cases k3:bE l i [117,110,105,116] with
  | true =>
   have hin:=aX k3
   rw [if_pos rfl]
   refine ⟨.node 3 0 [] [] [],?_,fun _=>⟨rfl,by simp only; omega,by simp only [one]; omega⟩,by simp only; omega,by simp only; omega⟩
   refine Ev.step (fun k=>by rw [bS]) ?_
   refine Ev.nF rfl ?_
   refine Ev.bind hpL ?_
   refine Ev.isF rfl ?_
   refine Ev.bind (aHG k1) ?_
   refine Ev.isF rfl ?_
   refine Ev.bind (aHG k2) ?_
   refine Ev.isF rfl ?_
   refine Ev.bind (aLg hl k3) ?_
   refine Ev.isT rfl ?_
   exact Ev.bind (aGI ..) Ev.pure
  | false =>
  rw [if_neg (by simp)]
  have prog:∀ {v:Tr×List aI×Int×Int},Ev (fun K=>(bK K l (i:Int) 0 [40]).bind fun (v19,v20,v21,v22)=>(iteS v19 ((bP K v20 v21 v22).bind fun (v23,v24,v25,v26)=>((dM K v24 v25 v26 ([41]:List UInt8)).bind fun (v27,v28,v29)=>(some (v23,v27,v28,v29)))) ((bK K v20 v21 v22 ([109,117]:List UInt8)).bind fun (v30,v31,v32,v33)=>(iteS v30 ((fA K v31 v32 v33).bind fun (v34,v35,v36,v37)=>(cC K v34 v35 v36 v37)) ((cN K v31 v32 v33 6).bind fun (v50,v51,v52)=>(some (.nil,v50,v51,v52))))))) v→Ev (fun K=>bS K l (i:Int) 0) v:=fun h=>by
   refine Ev.step (fun k=>by rw [bS]) ?_
   refine Ev.nF rfl ?_
   refine Ev.bind hpL ?_
   refine Ev.isF rfl ?_
   refine Ev.bind (aHG k1) ?_
   refine Ev.isF rfl ?_
   refine Ev.bind (aHG k2) ?_
   refine Ev.isF rfl ?_
   refine Ev.bind (aHG k3) ?_
   refine Ev.isF rfl ?_
   exact h
  cases k4:bE l i [40] with
  | true =>
   have hin:=aX k4
   rw [if_pos rfl]
   have hp:=hty (i+1) (by omega) (by omega)
   generalize aER l n (i+1)=g at *
   obtain ⟨t,j,er⟩:=g
   obtain ⟨t',h1,h5,h4,h3⟩:=hp
   simp only at h1 h5 h4 h3 ⊢
   by_cases he:er=0
   ·subst he
    obtain ⟨e1,e2,e3⟩:=h5 rfl
    subst e1
    rw [if_pos rfl]
    cases k5:bE l j [41] with
    | true =>
     have hin5:=aX k5
     rw [if_pos rfl]
     refine ⟨t',prog ?_,fun _=>⟨rfl,by simp only; omega,by simp only; omega⟩,by simp only; omega,by simp only; omega⟩
     refine Ev.bind (aLg hl k4) ?_
     refine Ev.isT rfl ?_
     refine Ev.bind h1 ?_
     exact Ev.bind (aKO hl k5) Ev.pure
    | false =>
     rw [if_neg (by simp)]
     refine ⟨t',prog ?_,fun h=>(by cases h),by simp only; omega,by simp only; omega⟩
     refine Ev.bind (aLg hl k4) ?_
     refine Ev.isT rfl ?_
     refine Ev.bind h1 ?_
     exact Ev.bind (aW4 k5) Ev.pure
   ·rw [if_neg he]
    refine ⟨t',prog ?_,fun h=>absurd h he,by simp only; omega,by simp only; omega⟩
    refine Ev.bind (aLg hl k4) ?_
    refine Ev.isT rfl ?_
    refine Ev.bind h1 ?_
    exact Ev.bind (aHQ l j er he _) Ev.pure
  | false =>
  rw [if_neg (by simp)]
  cases k5:bE l i [109,117] with
  | false =>
   rw [if_neg (by simp)]
   refine ⟨.nil,prog ?_,fun h=>(by cases h),Nat.le_refl _,hi⟩
   refine Ev.bind (aHG k4) ?_
   refine Ev.isF rfl ?_
   refine Ev.bind (aHG k5) ?_
   refine Ev.isF rfl ?_
   exact Ev.bind (a:=(l,(i:Int),6)) (Ev.congr (f:=fun K=>_) (Ev.dT rfl Ev.pure) (fun k=>by rw [cN])) Ev.pure
  | true =>
   have hin:=aX k5
   rw [if_pos rfl]
   have prog2:∀ {v:Tr×List aI×Int×Int} {s:List UInt8} {a:Int} {e:Int},Ev (fun K=>fA K l ((i+1:Nat):Int) 0) (s,l,a,e)→Ev (fun K=>cC K s l a e) v→Ev (fun K=>bS K l (i:Int) 0) v:=fun hn hc=>prog (by
    refine Ev.bind (aHG k4) ?_
    refine Ev.isF rfl ?_
    refine Ev.bind (aLg hl k5) ?_
    refine Ev.isT rfl ?_
    exact Ev.bind hn hc)
   have hni:=aLW (l:=l) (i:=((i+1:Nat):Int))
   generalize hN:pX l ((i+1:Nat):Int)=N at *
   obtain ⟨s,b⟩:=N
   simp only at hni ⊢
   cases b with
   | false =>
    rw [if_neg (by simp)]
    obtain ⟨t,ht⟩:=aYy l ((i+1:Nat):Int) 6 (by decide) []
    exact ⟨t,prog2 (bEH hN) ht,fun h=>(by cases h),by simp only; omega,by simp only; omega⟩
   | true =>
    have hni:=hni rfl
    rw [if_pos rfl]
    cases k6:bE l ((i+2:Nat):Int) [123] with
    | false =>
     rw [if_neg (by simp)]
     refine ⟨.node 7 0 s [] [],prog2 (aPW hl hN) ?_,fun h=>(by cases h),by simp only; omega,by simp only; omega⟩
     refine Ev.step (fun k=>by rw [cC]) ?_
     refine Ev.bind (aW4 (l:=l) (i:=((i+2:Nat):Int)) k6) ?_
     refine Ev.bind (aXM l _ 6 (by decide)) ?_
     refine Ev.bind (aHQ l _ 6 (by decide) _) ?_
     exact Ev.bind (aGI ..) Ev.pure
    | true =>
     have hin6:=aX k6
     rw [if_pos rfl]
     have hc:=hco (i+3) (by omega) (by omega) [] (fun s=>by simp [jD]) (by simp)
     generalize aHM l n (i+3) []=g at *
     obtain ⟨c,j,er⟩:=g
     obtain ⟨c',h1,h5,h4,h3⟩:=hc
     simp only [aK] at h1 h5 h4 h3 ⊢
     have h1':Ev (fun K=>eY K l ((i+3:Nat):Int) 0) (c',l,(j:Int),er):=Ev.step (fun k=>by rw [eY]) h1
     by_cases he:er=0
     ·subst he
      obtain ⟨e1,e2,e3⟩:=h5 rfl
      subst e1
      rw [if_pos rfl]
      cases k7:bE l j [125] with
      | true =>
       have hin7:=aX k7
       rw [if_pos rfl]
       refine ⟨.node 7 0 s [] c',prog2 (aPW hl hN) ?_,fun _=>⟨rfl,by simp only; omega,by simp only [aJ]; omega⟩,by simp only; omega,by simp only; omega⟩
       refine Ev.step (fun k=>by rw [cC]) ?_
       refine Ev.bind (aKO hl (i:=i+2) k6) ?_
       refine Ev.bind h1' ?_
       refine Ev.bind (aKO hl k7) ?_
       exact Ev.bind (aGI ..) Ev.pure
      | false =>
       rw [if_neg (by simp)]
       refine ⟨.node 7 0 s [] c',prog2 (aPW hl hN) ?_,fun h=>(by cases h),by simp only; omega,by simp only; omega⟩
       refine Ev.step (fun k=>by rw [cC]) ?_
       refine Ev.bind (aKO hl (i:=i+2) k6) ?_
       refine Ev.bind h1' ?_
       refine Ev.bind (aW4 k7) ?_
       exact Ev.bind (aGI ..) Ev.pure
     ·rw [if_neg he]
      refine ⟨.node 7 0 s [] c',prog2 (aPW hl hN) ?_,fun h=>absurd h he,by simp only; omega,by simp only; omega⟩
      refine Ev.step (fun k=>by rw [cC]) ?_
      refine Ev.bind (aKO hl (i:=i+2) k6) ?_
      refine Ev.bind h1' ?_
      refine Ev.bind (aHQ l j er he _) ?_
      exact Ev.bind (aGI ..) Ev.pure
theorem bFL {n i:Nat} {out:List Tr} (hi:i≤l.length) (hty:∀ j,i<j→j≤l.length→PS l bP j (aER l n j)) (hco:∀ j out,i<j→j≤l.length→PSC l j out (aHM l n j out)):PSC l i out (aHM l (n+1) i out):=by
 intro sn hsn ho
 rw [aHM]
 have hni:=aLW (l:=l) (i:=(i:Int))
 generalize hN:pX l (i:Int)=N at *
 obtain ⟨s,b⟩:=N
 simp only at hni ⊢
 cases b with
 | false =>
  rw [if_neg (by simp)]
  obtain ⟨out',hc0⟩:=aRl l (i:Int) 6 (by decide) (out:=out) (by omega) [] sn
  refine ⟨out',?_,fun h=>(by cases h),Nat.le_refl _,hi⟩
  refine Ev.step (fun k=>by rw [dE]) ?_
  refine Ev.dT rfl ?_
  refine Ev.bind (bEH hN) ?_
  refine Ev.dF (by decide) ?_
  exact hc0
 | true =>
  have hni:=hni rfl
  rw [if_pos rfl]
  by_cases hdup:s∈out.map nameOf
  ·rw [if_pos hdup]
   obtain ⟨out',hc0⟩:=aRl l (i:Int) 9 (by decide) (out:=out) (by omega) s sn
   refine ⟨out',?_,fun h=>(by cases h),Nat.le_refl _,hi⟩
   refine Ev.step (fun k=>by rw [dE]) ?_
   refine Ev.dT rfl ?_
   refine Ev.bind (aPW hl hN) ?_
   refine Ev.dT rfl ?_
   refine Ev.isT (by rw [hsn]; exact decide_eq_true hdup) ?_
   exact Ev.bind (a:=(l,(i:Int),9)) (Ev.congr (f:=fun K=>_) (Ev.dT rfl Ev.pure) (fun k=>by rw [cN])) hc0
  ·rw [if_neg hdup]
   have prog:∀ {v:List Tr×List aI×Int×Int},Ev (fun K=>bV K out s l ((i+1:Nat):Int) 0 sn) v→Ev (fun K=>dE K out l (i:Int) 0 sn) v:=fun h=>by
    refine Ev.step (fun k=>by rw [dE]) ?_
    refine Ev.dT rfl ?_
    refine Ev.bind (aPW hl hN) ?_
    refine Ev.dT rfl ?_
    refine Ev.isF (by rw [hsn]; exact decide_eq_false hdup) ?_
    exact h
   cases k1:bE l ((i+1:Nat):Int) [111,102] with
   | false =>
    rw [if_neg (by simp)]
    refine ⟨out++[.node 8 0 s [] [.nil]],prog ?_,fun h=>(by cases h),by simp only; omega,by simp only; omega⟩
    refine Ev.step (fun k=>by rw [bV]) ?_
    refine Ev.bind (aW4 k1) ?_
    refine Ev.bind (bA9 l _ 6 (by decide)) ?_
    refine Ev.bind (aGI ..) ?_
    refine Ev.opt (cM (by simp; omega)) ?_
    refine Ev.bind (aLS l _ 6 (by decide) _) ?_
    exact Ev.isT rfl Ev.pure
   | true =>
    have hin1:=aX k1
    rw [if_pos rfl]
    have hp:=hty (i+2) (by omega) (by omega)
    generalize aER l n (i+2)=g at *
    obtain ⟨t,j,er⟩:=g
    obtain ⟨t',h1,h5,h4,h3⟩:=hp
    simp only at h1 h5 h4 h3 ⊢
    by_cases he:er=0
    ·subst he
     obtain ⟨e1,e2,e3⟩:=h5 rfl
     subst e1
     rw [if_pos rfl]
     have hw1:(Tr.node 8 0 s [] [t']).w=1+t'.w:=by rw [aJ,aD,aK]; omega
     have hwo:wL (out++[.node 8 0 s [] [t']])=wL out+1+t'.w:=by
      rw [aIc,aD,aK,hw1]; omega
     cases k2:bE l j [124] with
     | false =>
      rw [if_neg (by simp)]
      refine ⟨out++[.node 8 0 s [] [t']],prog ?_,fun _=>⟨rfl,by simp only; omega,by simp only; omega⟩,by simp only; omega,h3⟩
      refine Ev.step (fun k=>by rw [bV]) ?_
      refine Ev.bind (aKO hl k1) ?_
      refine Ev.bind h1 ?_
      refine Ev.bind (aGI ..) ?_
      refine Ev.opt (cM (by simp; omega)) ?_
      refine Ev.bind (aHG k2) ?_
      exact Ev.isT rfl Ev.pure
     | true =>
      have hin2:=aX k2
      rw [if_pos rfl]
      obtain ⟨c',g1,g5,g4,g3⟩:=hco (j+1) (out++[.node 8 0 s [] [t']]) (by omega) (by omega) (aEE sn s true) (by
       intro s'
       rw [aUr,hsn]
       by_cases e:s'=s
       ·rw [if_pos e]; simp [nameOf,e]
       ·rw [if_neg e]; simp [nameOf,e]) (by simp; omega)
      refine ⟨c',prog ?_,fun h=>?_,by omega,g3⟩
      ·refine Ev.step (fun k=>by rw [bV]) ?_
       refine Ev.bind (aKO hl k1) ?_
       refine Ev.bind h1 ?_
       refine Ev.bind (aGI ..) ?_
       refine Ev.opt (cM (by simp; omega)) ?_
       refine Ev.bind (aLg hl k2) ?_
       refine Ev.isF rfl ?_
       exact g1
      ·obtain ⟨q1,q2,q3⟩:=g5 h
       exact ⟨q1,by omega,by omega⟩
    ·rw [if_neg he]
     refine ⟨out++[.node 8 0 s [] [t']],prog ?_,fun h=>absurd h he,by simp only; omega,h3⟩
     refine Ev.step (fun k=>by rw [bV]) ?_
     refine Ev.bind (aKO hl k1) ?_
     refine Ev.bind h1 ?_
     refine Ev.bind (aGI ..) ?_
     refine Ev.opt (cM (by simp; omega)) ?_
     refine Ev.bind (aLS l j er he _) ?_
     exact Ev.isT rfl Ev.pure
theorem aXl:∀ (n i:Nat),i≤l.length →
  (3 * (l.length - i)+3≤n→PS l bP i (aER l n i))∧(3 * (l.length - i)+2≤n→PS l bN i (aJn l n i))∧(3 * (l.length - i)+1≤n→PS l bS i (aHK l n i)) ∧
  (3 * (l.length - i)+1≤n→∀ out,PSC l i out (aHM l n i out)):=by
 intro n
 induction n with
 | zero=>intro i hi; exact ⟨fun h=>by omega,fun h=>by omega,fun h=>by omega,fun h=>by omega⟩
 | succ n ih =>
  intro i hi
  refine ⟨fun h=>?_,fun h=>?_,fun h=>?_,fun h out=>?_⟩
  ·exact bIn hl ((ih i hi).2.1 (by omega)) fun j h1 h2=>(ih j h2).1 (by omega)
  ·exact bFe hl ((ih i hi).2.2.1 (by omega)) fun j h1 h2=>(ih j h2).2.1 (by omega)
  ·exact bFP hl hi (fun j h1 h2=>(ih j h2).1 (by omega)) fun j h1 h2=>(ih j h2).2.2.2 (by omega) []
  ·exact bFL hl hi (fun j h1 h2=>(ih j h2).1 (by omega)) fun j out h1 h2=>(ih j h2).2.2.2 (by omega) out
end
end Go.Proofs.YtjhfgiieicloeaaGreatDoor

/- The parser of types at a place: the answer. -/
namespace Go.Proofs.YtjhfgiieicloeaaGreatDoor
open Go Go.Am Go.Sx
section
variable {l:List aI} (hl:l.length≤20000)
include hl
theorem aYu {i:Int} (h:0≤i∧i≤(l.length:Int)):Ev (fun K=>aA6 K l i) (l,i,0):=by
 have:=hl
 refine Ev.congr (f:=fun K=>_) ?_ (fun k=>by rw [aA6])
 exact Ev.dF (by omega) (Ev.dF (by omega) Ev.pure)

end
end Go.Proofs.YtjhfgiieicloeaaGreatDoor

/- The parser of types at a place: what the plain function tells. -/
namespace Go.Proofs.YtjhfgiieicloeaaGreatDoor
open Go Go.Am Go.Sx
section
variable {l:List aI} (hl:l.length≤20000)
include hl
theorem bII {i:Nat} (hi:i≤l.length):(i≤(aER l (3 * l.length+3) i).2.1∧(aER l (3 * l.length+3) i).2.1≤l.length)∧((aER l (3 * l.length+3) i).2.2=0→i<(aER l (3 * l.length+3) i).2.1∧(aER l (3 * l.length+3) i).1.w+i≤(aER l (3 * l.length+3) i).2.1):=by
 obtain ⟨t',h1,h5,h4,h3⟩:=(aXl hl (3 * l.length+3) i hi).1 (by omega)
 exact ⟨⟨h4,h3⟩,fun h=>(h5 h).2⟩
end
end Go.Proofs.YtjhfgiieicloeaaGreatDoor

/- The parser of expressions as a plain function of the tokens; where it stands. -/
namespace Go.Proofs.YtjhfgiieicloeaaGreatDoor
open Go Go.Am Go.Sx
abbrev RT:=Tr×Nat×Int
def bnd {α β:Type} (d:β) (r:α×Nat×Int) (f:α→Nat→β×Nat×Int):β×Nat×Int:=if r.2.2=0 then f r.1 r.2.1 else (d,r.2.1,r.2.2)
theorem aO {α β:Type} {d:β} {a:α} {j:Nat} {f:α→Nat→β×Nat×Int}:bnd d (a,j,0) f=f a j:=if_pos rfl
def ks (l:List aI):List (List UInt8)→Nat→Unit×Nat×Int
 | [],i=>((),i,0)
 | t :: r,i=>if bE l (i:Int) t=true then ks l r (i+1) else ((),i,6)
def nmR (l:List aI) (i:Nat):List UInt8×Nat×Int:=if (pX l (i:Int)).2=true then ((pX l (i:Int)).1,i+1,0) else ([],i,6)
def stS (l:List aI) (i:Nat):Bool:=match aJI l (i:Int) with
 | some k=>if k.1=3 then decide (k.2.1=[116,114,117,101]) || (decide (k.2.1=[102,97,108,115,101]) || (decide (k.2.1=[40]) || (decide (k.2.1=[35,49]) || decide (k.2.1=[35,50]))))
  else if k.1=2 then decide (-1073741824≤k.2.2.1) && decide (k.2.2.1≤1073741824) else decide (k.1=1) && lgS k.2.1
 | none=>false
theorem aZi {l:List aI} {i:Nat} (h:stS l i=true):i<l.length:=by
 by_cases hi:0≤(i:Int)∧(i:Int)<(l.length:Int)
 ·omega
 ·unfold stS at h; rw [aBZ hi] at h; cases h
def tyR (l:List aI) (i:Nat):RT:=aER l (3 * l.length+3) i
def opN (n:Int) (a b:Tr):Tr:=.node 31 n [] [] [a,b]
mutual
def fD (l:List aI):Nat→Nat→RT
 | 0,i=>(.nil,i,6)
 | n+1,i =>
  if bE l (i:Int) [102,110]=true then bnd .nil (ks l [[40]] (i+1)) fun _ i=>bnd .nil (nmR l i) fun s i=>bnd .nil (ks l [[58]] i) fun _ i=>bnd .nil (tyR l i) fun t i=>bnd .nil (ks l [[41],[61,62]] i) fun _ i=>bnd .nil (fD l n i) fun b i=>(.node 24 0 s [] [t,b],i,0)
  else if bE l (i:Int) [108,101,116]=true then bnd .nil (nmR l (i+1)) fun s i=>bnd .nil (ks l [[61]] i) fun _ i=>bnd .nil (fD l n i) fun a i=>bnd .nil (ks l [[105,110]] i) fun _ i=>bnd .nil (fD l n i) fun b i=>bnd .nil (ks l [[101,110,100]] i) fun _ i=>(.node 29 0 s [] [a,b],i,0)
  else if bE l (i:Int) [105,102]=true then bnd .nil (fD l n (i+1)) fun a i=>bnd .nil (ks l [[116,104,101,110]] i) fun _ i=>bnd .nil (fD l n i) fun b i=>bnd .nil (ks l [[101,108,115,101]] i) fun _ i=>bnd .nil (fD l n i) fun c i=>(.node 30 0 [] [] [a,b,c],i,0)
  else if bE l (i:Int) [99,97,115,101]=true then bnd .nil (fD l n (i+1)) fun a i=>bnd .nil (ks l [[111,102]] i) fun _ i=>bnd .nil (aCc l n [] i) fun k i=>(.node 32 0 [] [] (a :: k),i,0)
  else if bE l (i:Int) [102,111,108,100]=true then bnd .nil (fD l n (i+1)) fun a i=>bnd .nil (ks l [[116,111]] i) fun _ i=>bnd .nil (tyR l i) fun t i=>bnd .nil (ks l [[111,102]] i) fun _ i=>bnd .nil (aCc l n [] i) fun k i=>(.node 33 0 [] [] (a :: t :: k),i,0)
  else aSm l n i
def aCc (l:List aI):Nat→List Tr→Nat→List Tr×Nat×Int
 | 0,_,i=>([],i,6)
 | n+1,out,i=>bnd [] (nmR l i) fun c i=>bnd [] (nmR l i) fun x i=>bnd [] (ks l [[61,62]] i) fun _ i=>bnd [] (fD l n i) fun b i =>
  if bE l (i:Int) [124]=true then aCc l n (out++[.node 34 0 c x [b]]) (i+1) else bnd [] (ks l [[101,110,100]] i) fun _ i=>(out++[.node 34 0 c x [b]],i,0)
def aSm (l:List aI):Nat→Nat→RT
 | 0,i=>(.nil,i,6)
 | n+1,i=>bnd .nil (aF9 l n i) fun a i =>
  if bE l (i:Int) [61]=true then bnd .nil (aF9 l n (i+1)) fun b i=>(opN 4 a b,i,0)
  else if bE l (i:Int) [60]=true then bnd .nil (aF9 l n (i+1)) fun b i=>(opN 5 a b,i,0)
  else (a,i,0)
def aF9 (l:List aI):Nat→Nat→RT
 | 0,i=>(.nil,i,6)
 | n+1,i=>bnd .nil (xU l n i) fun a i=>aDT l n a i
def aDT (l:List aI):Nat→Tr→Nat→RT
 | 0,_,i=>(.nil,i,6)
 | n+1,a,i =>
  if bE l (i:Int) [43]=true then bnd .nil (xU l n (i+1)) fun b i=>aDT l n (opN 1 a b) i
  else if bE l (i:Int) [45]=true then bnd .nil (xU l n (i+1)) fun b i=>aDT l n (opN 2 a b) i
  else (a,i,0)
def xU (l:List aI):Nat→Nat→RT
 | 0,i=>(.nil,i,6)
 | n+1,i=>bnd .nil (aJX l n i) fun a i=>aAw l n a i
def aAw (l:List aI):Nat→Tr→Nat→RT
 | 0,_,i=>(.nil,i,6)
 | n+1,a,i=>if bE l (i:Int) [42]=true then bnd .nil (aJX l n (i+1)) fun b i=>aAw l n (opN 3 a b) i else (a,i,0)
def aJX (l:List aI):Nat→Nat→RT
 | 0,i=>(.nil,i,6)
 | n+1,i=>bnd .nil (pA l n i) fun a i=>aFR l n a i
def aFR (l:List aI):Nat→Tr→Nat→RT
 | 0,_,i=>(.nil,i,6)
 | n+1,a,i=>if stS l i=true then bnd .nil (pA l n i) fun b i=>aFR l n (.node 25 0 [] [] [a,b]) i else (a,i,0)
def pA (l:List aI):Nat→Nat→RT
 | 0,i=>(.nil,i,6)
 | n+1,i=>if stS l i=true then (match aJI l (i:Int) with
   | none=>(.nil,i,6)
   | some k =>
    if k.1=2 then (.node 20 k.2.2.1 [] [] [],i+1,0)
    else if k.1=1 then (.node 23 0 k.2.1 [] [],i+1,0)
    else if k.2.1=[116,114,117,101] then (.node 21 1 [] [] [],i+1,0)
    else if k.2.1=[102,97,108,115,101] then (.node 21 0 [] [] [],i+1,0)
    else if k.2.1=[35,49] then bnd .nil (pA l n (i+1)) fun a i=>(.node 27 0 [] [] [a],i,0)
    else if k.2.1=[35,50] then bnd .nil (pA l n (i+1)) fun a i=>(.node 28 0 [] [] [a],i,0)
    else if bE l ((i+1:Nat):Int) [41]=true then (.node 22 0 [] [] [],i+2,0)
    else bnd .nil (fD l n (i+1)) fun a i =>
     if bE l (i:Int) [44]=true then bnd .nil (fD l n (i+1)) fun b i=>bnd .nil (ks l [[41]] i) fun _ i=>(.node 26 0 [] [] [a,b],i,0)
     else bnd .nil (ks l [[41]] i) fun _ i=>(a,i,0))
  else (.nil,i,6)
end
def Bw {α:Type} (l:List aI) (i:Nat) (g:α×Nat×Int):Prop:=i≤g.2.1∧g.2.1≤l.length
theorem eN (l:List aI):∀ (t:List (List UInt8)) (i:Nat),i≤l.length→Bw l i (ks l t i)
 | [],i,h=>⟨Nat.le_refl _,h⟩
 | t :: r,i,h=>by
  unfold ks
  by_cases hk:bE l (i:Int) t=true
  ·rw [if_pos hk]
   have:=aX hk
   have:=eN l r (i+1) (by omega)
   unfold Bw at *; omega
  ·rw [if_neg hk]; exact ⟨Nat.le_refl _,h⟩
theorem oK {l:List aI} {i:Nat} (h:i≤l.length):Bw l i (nmR l i):=by
 unfold nmR
 by_cases hk:(pX l (i:Int)).2=true
 ·rw [if_pos hk]
  have:=aLW hk
  exact ⟨by simp only; omega,by simp only; omega⟩
 ·rw [if_neg hk]; exact ⟨Nat.le_refl _,h⟩
end Go.Proofs.YtjhfgiieicloeaaGreatDoor

/- Where the parser of expressions stands: bounds of its plain functions. Printed by gen7/y2.py. -/
namespace Go.Proofs.YtjhfgiieicloeaaGreatDoor
open Go Go.Am Go.Sx
def Pz (l:List aI) (i0 lo:Nat) (g:RT):Prop:=i0≤g.2.1∧g.2.1≤l.length∧(g.2.2=0→i0<g.2.1∧g.1.w+1+lo≤2 * g.2.1)
theorem aT {α:Type} {l:List aI} {i0 lo:Nat} {r:α×Nat×Int} {f:α→Nat→RT} (h1:i0≤r.2.1) (h2:r.2.1≤l.length) (hf:r.2.2=0→Pz l i0 lo (f r.1 r.2.1)):Pz l i0 lo (bnd .nil r f):=by
 unfold bnd
 by_cases h0:r.2.2=0
 ·rw [if_pos h0]; exact hf h0
 ·rw [if_neg h0]; exact ⟨h1,h2,fun h=>absurd h h0⟩
def Pq (l:List aI) (i0:Nat) (out:List Tr) (_lo:Nat) (g:List Tr×Nat×Int):Prop:=i0≤g.2.1∧g.2.1≤l.length∧(g.2.2=0→i0<g.2.1∧wL g.1+2 * i0≤wL out+2 * g.2.1)
theorem aTL {α:Type} {l:List aI} {i0 lo:Nat} {out:List Tr} {r:α×Nat×Int} {f:α→Nat→List Tr×Nat×Int} (h1:i0≤r.2.1) (h2:r.2.1≤l.length) (hf:r.2.2=0→Pq l i0 out lo (f r.1 r.2.1)):Pq l i0 out lo (bnd [] r f):=by
 unfold bnd
 by_cases h0:r.2.2=0
 ·rw [if_pos h0]; exact hf h0
 ·rw [if_neg h0]; exact ⟨h1,h2,fun h=>absurd h h0⟩
theorem nG {l:List aI} {i0 lo i:Nat} {e:Int} (h1:i0≤i) (h2:i≤l.length) (he:e≠0):Pz l i0 lo (.nil,i,e):=⟨h1,h2,fun h=>absurd h he⟩
section
variable {l:List aI} (hl:l.length≤20000)
include hl
theorem aGP {i:Nat} (hi:i≤l.length):Pz l i (2 * i) (tyR l i):=by
 unfold tyR
 obtain ⟨h2,h3⟩:=bII hl hi
 refine ⟨h2.1,h2.2,fun h=>?_⟩
 have:=h3 h
 omega
theorem bBE:∀ n i,i≤l.length→Pz l i (2 * i) (fD l n i)∧(∀ out,Pq l i out 0 (aCc l n out i))∧Pz l i (2 * i) (aSm l n i)∧Pz l i (2 * i) (aF9 l n i)∧(∀ i0 lo a,i0<i→a.w+1+lo≤2 * i→Pz l i0 lo (aDT l n a i)) ∧
  Pz l i (2 * i) (xU l n i)∧(∀ i0 lo a,i0<i→a.w+1+lo≤2 * i→Pz l i0 lo (aAw l n a i))∧Pz l i (2 * i) (aJX l n i)∧(∀ i0 lo a,i0<i→a.w+1+lo≤2 * i→Pz l i0 lo (aFR l n a i))∧Pz l i (2 * i) (pA l n i):=by
 intro n
 induction n with
 | zero =>
  intro i hi
  refine ⟨?_,fun out=>?_,?_,?_,fun i0 lo a h _=>?_,?_,fun i0 lo a h _=>?_,?_,fun i0 lo a h _=>?_,?_⟩
  ·rw [fD]; exact nG (Nat.le_refl _) hi (by decide)
  ·rw [aCc]; exact ⟨Nat.le_refl _,hi,fun h=>absurd (show (6:Int)=0 from h) (by decide)⟩
  ·rw [aSm]; exact nG (Nat.le_refl _) hi (by decide)
  ·rw [aF9]; exact nG (Nat.le_refl _) hi (by decide)
  ·rw [aDT]; exact nG (by omega) hi (by decide)
  ·rw [xU]; exact nG (Nat.le_refl _) hi (by decide)
  ·rw [aAw]; exact nG (by omega) hi (by decide)
  ·rw [aJX]; exact nG (Nat.le_refl _) hi (by decide)
  ·rw [aFR]; exact nG (by omega) hi (by decide)
  ·rw [pA]; exact nG (Nat.le_refl _) hi (by decide)
 | succ n ih =>
  intro i hi
  have ihE:∀ j,j≤l.length→Pz l j (2 * j) (fD l n j):=fun j h=>(ih j h).1
  have ihA:∀ out j,j≤l.length→∀ _lo:Nat,Pq l j out 0 (aCc l n out j):=fun out j h _=>(ih j h).2.1 out
  have ihC:∀ j,j≤l.length→Pz l j (2 * j) (aSm l n j):=fun j h=>(ih j h).2.2.1
  have ihS:∀ j,j≤l.length→Pz l j (2 * j) (aF9 l n j):=fun j h=>(ih j h).2.2.2.1
  have ihSL:∀ j,j≤l.length→∀ i0 lo a,i0<j→a.w+1+lo≤2 * j→Pz l i0 lo (aDT l n a j):=fun j h=>(ih j h).2.2.2.2.1
  have ihT:∀ j,j≤l.length→Pz l j (2 * j) (xU l n j):=fun j h=>(ih j h).2.2.2.2.2.1
  have ihTL:∀ j,j≤l.length→∀ i0 lo a,i0<j→a.w+1+lo≤2 * j→Pz l i0 lo (aAw l n a j):=fun j h=>(ih j h).2.2.2.2.2.2.1
  have ihP:∀ j,j≤l.length→Pz l j (2 * j) (aJX l n j):=fun j h=>(ih j h).2.2.2.2.2.2.2.1
  have ihPL:∀ j,j≤l.length→∀ i0 lo a,i0<j→a.w+1+lo≤2 * j→Pz l i0 lo (aFR l n a j):=fun j h=>(ih j h).2.2.2.2.2.2.2.2.1
  have ihO:∀ j,j≤l.length→Pz l j (2 * j) (pA l n j):=fun j h=>(ih j h).2.2.2.2.2.2.2.2.2
  refine ⟨?_,fun out=>?_,?_,?_,fun i0 lo a ha hw=>?_,?_,fun i0 lo a ha hw=>?_,?_,fun i0 lo a ha hw=>?_,?_⟩
  ·rw [fD]
   by_cases k_fn:bE l (i:Int) [102,110]=true
   ·rw [if_pos k_fn]
    have hin:=aX k_fn
    have g1b:=eN l [[40]] (i+1) (by omega)
    generalize ks l [[40]] (i+1)=g1 at *
    obtain ⟨g11,g12⟩:=g1b
    refine aT (by omega) g12 fun h1=>?_
    have g2b:=oK (l:=l) (i:=g1.2.1) (by omega)
    generalize nmR l (g1.2.1)=g2 at *
    obtain ⟨g21,g22⟩:=g2b
    refine aT (by omega) g22 fun h2=>?_
    have g3b:=eN l [[58]] (g2.2.1) (by omega)
    generalize ks l [[58]] (g2.2.1)=g3 at *
    obtain ⟨g31,g32⟩:=g3b
    refine aT (by omega) g32 fun h3=>?_
    have g4b:=aGP hl (i:=g3.2.1) (by omega)
    generalize tyR l (g3.2.1)=g4 at *
    obtain ⟨g41,g42,g43⟩:=g4b
    refine aT (by omega) g42 fun h4=>?_
    have g43:=g43 h4
    have g5b:=eN l [[41],[61,62]] (g4.2.1) (by omega)
    generalize ks l [[41],[61,62]] (g4.2.1)=g5 at *
    obtain ⟨g51,g52⟩:=g5b
    refine aT (by omega) g52 fun h5=>?_
    have g6b:=ihE (g5.2.1) (by omega)
    generalize fD l n (g5.2.1)=g6 at *
    obtain ⟨g61,g62,g63⟩:=g6b
    refine aT (by omega) g62 fun h6=>?_
    have g63:=g63 h6
    exact ⟨by simp only; omega,by simp only; omega,fun _=>⟨by simp only; omega,by simp only [aJ,aD,aK]; omega⟩⟩
   rw [if_neg k_fn]
   by_cases k_let:bE l (i:Int) [108,101,116]=true
   ·rw [if_pos k_let]
    have hin:=aX k_let
    have g1b:=oK (l:=l) (i:=i+1) (by omega)
    generalize nmR l (i+1)=g1 at *
    obtain ⟨g11,g12⟩:=g1b
    refine aT (by omega) g12 fun h1=>?_
    have g2b:=eN l [[61]] (g1.2.1) (by omega)
    generalize ks l [[61]] (g1.2.1)=g2 at *
    obtain ⟨g21,g22⟩:=g2b
    refine aT (by omega) g22 fun h2=>?_
    have g3b:=ihE (g2.2.1) (by omega)
    generalize fD l n (g2.2.1)=g3 at *
    obtain ⟨g31,g32,g33⟩:=g3b
    refine aT (by omega) g32 fun h3=>?_
    have g33:=g33 h3
    have g4b:=eN l [[105,110]] (g3.2.1) (by omega)
    generalize ks l [[105,110]] (g3.2.1)=g4 at *
    obtain ⟨g41,g42⟩:=g4b
    refine aT (by omega) g42 fun h4=>?_
    have g5b:=ihE (g4.2.1) (by omega)
    generalize fD l n (g4.2.1)=g5 at *
    obtain ⟨g51,g52,g53⟩:=g5b
    refine aT (by omega) g52 fun h5=>?_
    have g53:=g53 h5
    have g6b:=eN l [[101,110,100]] (g5.2.1) (by omega)
    generalize ks l [[101,110,100]] (g5.2.1)=g6 at *
    obtain ⟨g61,g62⟩:=g6b
    refine aT (by omega) g62 fun h6=>?_
    exact ⟨by simp only; omega,by simp only; omega,fun _=>⟨by simp only; omega,by simp only [aJ,aD,aK]; omega⟩⟩
   rw [if_neg k_let]
   by_cases k_if:bE l (i:Int) [105,102]=true
   ·rw [if_pos k_if]
    have hin:=aX k_if
    have g1b:=ihE (i+1) (by omega)
    generalize fD l n (i+1)=g1 at *
    obtain ⟨g11,g12,g13⟩:=g1b
    refine aT (by omega) g12 fun h1=>?_
    have g13:=g13 h1
    have g2b:=eN l [[116,104,101,110]] (g1.2.1) (by omega)
    generalize ks l [[116,104,101,110]] (g1.2.1)=g2 at *
    obtain ⟨g21,g22⟩:=g2b
    refine aT (by omega) g22 fun h2=>?_
    have g3b:=ihE (g2.2.1) (by omega)
    generalize fD l n (g2.2.1)=g3 at *
    obtain ⟨g31,g32,g33⟩:=g3b
    refine aT (by omega) g32 fun h3=>?_
    have g33:=g33 h3
    have g4b:=eN l [[101,108,115,101]] (g3.2.1) (by omega)
    generalize ks l [[101,108,115,101]] (g3.2.1)=g4 at *
    obtain ⟨g41,g42⟩:=g4b
    refine aT (by omega) g42 fun h4=>?_
    have g5b:=ihE (g4.2.1) (by omega)
    generalize fD l n (g4.2.1)=g5 at *
    obtain ⟨g51,g52,g53⟩:=g5b
    refine aT (by omega) g52 fun h5=>?_
    have g53:=g53 h5
    exact ⟨by simp only; omega,by simp only; omega,fun _=>⟨by simp only; omega,by simp only [aJ,aD,aK]; omega⟩⟩
   rw [if_neg k_if]
   by_cases k_case:bE l (i:Int) [99,97,115,101]=true
   ·rw [if_pos k_case]
    have hin:=aX k_case
    have g1b:=ihE (i+1) (by omega)
    generalize fD l n (i+1)=g1 at *
    obtain ⟨g11,g12,g13⟩:=g1b
    refine aT (by omega) g12 fun h1=>?_
    have g13:=g13 h1
    have g2b:=eN l [[111,102]] (g1.2.1) (by omega)
    generalize ks l [[111,102]] (g1.2.1)=g2 at *
    obtain ⟨g21,g22⟩:=g2b
    refine aT (by omega) g22 fun h2=>?_
    have g3b:=ihA [] (g2.2.1) (by omega) 0
    generalize aCc l n [] (g2.2.1)=g3 at *
    obtain ⟨g31,g32,g33⟩:=g3b
    refine aT (by omega) g32 fun h3=>?_
    have g33:=g33 h3
    rw [aK] at g33
    exact ⟨by simp only; omega,by simp only; omega,fun _=>⟨by simp only; omega,by simp only [aJ,aD]; omega⟩⟩
   rw [if_neg k_case]
   by_cases k_fold:bE l (i:Int) [102,111,108,100]=true
   ·rw [if_pos k_fold]
    have hin:=aX k_fold
    have g1b:=ihE (i+1) (by omega)
    generalize fD l n (i+1)=g1 at *
    obtain ⟨g11,g12,g13⟩:=g1b
    refine aT (by omega) g12 fun h1=>?_
    have g13:=g13 h1
    have g2b:=eN l [[116,111]] (g1.2.1) (by omega)
    generalize ks l [[116,111]] (g1.2.1)=g2 at *
    obtain ⟨g21,g22⟩:=g2b
    refine aT (by omega) g22 fun h2=>?_
    have g3b:=aGP hl (i:=g2.2.1) (by omega)
    generalize tyR l (g2.2.1)=g3 at *
    obtain ⟨g31,g32,g33⟩:=g3b
    refine aT (by omega) g32 fun h3=>?_
    have g33:=g33 h3
    have g4b:=eN l [[111,102]] (g3.2.1) (by omega)
    generalize ks l [[111,102]] (g3.2.1)=g4 at *
    obtain ⟨g41,g42⟩:=g4b
    refine aT (by omega) g42 fun h4=>?_
    have g5b:=ihA [] (g4.2.1) (by omega) 0
    generalize aCc l n [] (g4.2.1)=g5 at *
    obtain ⟨g51,g52,g53⟩:=g5b
    refine aT (by omega) g52 fun h5=>?_
    have g53:=g53 h5
    rw [aK] at g53
    exact ⟨by simp only; omega,by simp only; omega,fun _=>⟨by simp only; omega,by simp only [aJ,aD]; omega⟩⟩
   rw [if_neg k_fold]
   exact ihC i hi
  ·rw [aCc]
   have g1b:=oK (l:=l) (i:=i) hi
   generalize nmR l i=g1 at *
   obtain ⟨g11,g12⟩:=g1b
   refine aTL (by omega) g12 fun h1=>?_
   have g2b:=oK (l:=l) (i:=g1.2.1) (by omega)
   generalize nmR l g1.2.1=g2 at *
   obtain ⟨g21,g22⟩:=g2b
   refine aTL (by omega) g22 fun h2=>?_
   have g3b:=eN l [[61,62]] g2.2.1 (by omega)
   generalize ks l [[61,62]] g2.2.1=g3 at *
   obtain ⟨g31,g32⟩:=g3b
   refine aTL (by omega) g32 fun h3=>?_
   have g4b:=ihE g3.2.1 (by omega)
   generalize fD l n g3.2.1=g4 at *
   obtain ⟨g41,g42,g43⟩:=g4b
   refine aTL (by omega) g42 fun h4=>?_
   have g43:=g43 h4
   have hwo:wL (out++[.node 34 0 g1.1 g2.1 [g4.1]])=wL out+1+g4.1.w:=by rw [aIc,aD,aK,aJ,aD,aK]; omega
   by_cases kb:bE l (g4.2.1:Int) [124]=true
   ·rw [if_pos kb]
    have hin:=aX kb
    have g5b:=ihA (out++[.node 34 0 g1.1 g2.1 [g4.1]]) (g4.2.1+1) (by omega) 0
    generalize aCc l n (out++[.node 34 0 g1.1 g2.1 [g4.1]]) (g4.2.1+1)=g5 at *
    obtain ⟨g51,g52,g53⟩:=g5b
    refine ⟨by omega,g52,fun h=>?_⟩
    have:=g53 h
    omega
   ·rw [if_neg kb]
    have g5b:=eN l [[101,110,100]] g4.2.1 (by omega)
    generalize ks l [[101,110,100]] g4.2.1=g5 at *
    obtain ⟨g51,g52⟩:=g5b
    refine aTL (by omega) g52 fun h5=>?_
    exact ⟨by simp only; omega,by simp only; omega,fun _=>⟨by simp only; omega,by simp only [hwo]; omega⟩⟩
  ·rw [aSm]
   have g1b:=ihS i hi
   generalize aF9 l n i=g1 at *
   obtain ⟨g11,g12,g13⟩:=g1b
   refine aT (by omega) g12 fun h1=>?_
   have g13:=g13 h1
   by_cases k4:bE l (g1.2.1:Int) [61]=true
   ·rw [if_pos k4]
    have hin:=aX k4
    have g2b:=ihS (g1.2.1+1) (by omega)
    generalize aF9 l n (g1.2.1+1)=g2 at *
    obtain ⟨g21,g22,g23⟩:=g2b
    refine aT (by omega) g22 fun h2=>?_
    have g23:=g23 h2
    exact ⟨by simp only; omega,by simp only; omega,fun _=>⟨by simp only; omega,by simp only [opN,aJ,aD,aK]; omega⟩⟩
   rw [if_neg k4]
   by_cases k5:bE l (g1.2.1:Int) [60]=true
   ·rw [if_pos k5]
    have hin:=aX k5
    have g2b:=ihS (g1.2.1+1) (by omega)
    generalize aF9 l n (g1.2.1+1)=g2 at *
    obtain ⟨g21,g22,g23⟩:=g2b
    refine aT (by omega) g22 fun h2=>?_
    have g23:=g23 h2
    exact ⟨by simp only; omega,by simp only; omega,fun _=>⟨by simp only; omega,by simp only [opN,aJ,aD,aK]; omega⟩⟩
   rw [if_neg k5]
   exact ⟨by simp only; omega,by simp only; omega,fun _=>⟨by simp only; omega,by simp only; omega⟩⟩
  ·rw [aF9]
   have g1b:=ihT i hi
   generalize xU l n i=g1 at *
   obtain ⟨g11,g12,g13⟩:=g1b
   refine aT (by omega) g12 fun h1=>?_
   have g13:=g13 h1
   exact ihSL g1.2.1 g12 i (2 * i) g1.1 (by omega) (by omega)
  ·rw [aDT]
   by_cases k0:bE l (i:Int) [43]=true
   ·rw [if_pos k0]
    have hin:=aX k0
    have g1b:=ihT (i+1) (by omega)
    generalize xU l n (i+1)=g1 at *
    obtain ⟨g11,g12,g13⟩:=g1b
    refine aT (by omega) g12 fun h1=>?_
    have g13:=g13 h1
    exact ihSL g1.2.1 g12 i0 lo _ (by omega) (by simp only [opN,aJ,aD,aK]; omega)
   rw [if_neg k0]
   by_cases k1:bE l (i:Int) [45]=true
   ·rw [if_pos k1]
    have hin:=aX k1
    have g1b:=ihT (i+1) (by omega)
    generalize xU l n (i+1)=g1 at *
    obtain ⟨g11,g12,g13⟩:=g1b
    refine aT (by omega) g12 fun h1=>?_
    have g13:=g13 h1
    exact ihSL g1.2.1 g12 i0 lo _ (by omega) (by simp only [opN,aJ,aD,aK]; omega)
   rw [if_neg k1]
   exact ⟨by simp only; omega,hi,fun _=>⟨by simp only; omega,hw⟩⟩
  ·rw [xU]
   have g1b:=ihP i hi
   generalize aJX l n i=g1 at *
   obtain ⟨g11,g12,g13⟩:=g1b
   refine aT (by omega) g12 fun h1=>?_
   have g13:=g13 h1
   exact ihTL g1.2.1 g12 i (2 * i) g1.1 (by omega) (by omega)
  ·rw [aAw]
   by_cases k0:bE l (i:Int) [42]=true
   ·rw [if_pos k0]
    have hin:=aX k0
    have g1b:=ihP (i+1) (by omega)
    generalize aJX l n (i+1)=g1 at *
    obtain ⟨g11,g12,g13⟩:=g1b
    refine aT (by omega) g12 fun h1=>?_
    have g13:=g13 h1
    exact ihTL g1.2.1 g12 i0 lo _ (by omega) (by simp only [opN,aJ,aD,aK]; omega)
   rw [if_neg k0]
   exact ⟨by simp only; omega,hi,fun _=>⟨by simp only; omega,hw⟩⟩
  ·rw [aJX]
   have g1b:=ihO i hi
   generalize pA l n i=g1 at *
   obtain ⟨g11,g12,g13⟩:=g1b
   refine aT (by omega) g12 fun h1=>?_
   have g13:=g13 h1
   exact ihPL g1.2.1 g12 i (2 * i) g1.1 (by omega) (by omega)
  ·rw [aFR]
   by_cases k0:stS l i=true
   ·rw [if_pos k0]
    have hin:=aZi k0
    have g1b:=ihO (i) (by omega)
    generalize pA l n (i)=g1 at *
    obtain ⟨g11,g12,g13⟩:=g1b
    refine aT (by omega) g12 fun h1=>?_
    have g13:=g13 h1
    exact ihPL g1.2.1 g12 i0 lo _ (by omega) (by simp only [aJ,aD,aK]; omega)
   rw [if_neg k0]
   exact ⟨by simp only; omega,hi,fun _=>⟨by simp only; omega,hw⟩⟩
  ·rw [pA]
   by_cases ks0:stS l i=true
   ·rw [if_pos ks0]
    have hin:=aZi ks0
    obtain ⟨k,_,_,hk⟩:=aFm (l:=l) (i:=(i:Int)) (by omega)
    rw [hk]
    simp only
    by_cases c0:k.1=2
    ·rw [if_pos c0]
     exact ⟨by simp only; omega,by simp only; omega,fun _=>⟨by simp only; omega,by simp only [aJ,aK]; omega⟩⟩
    rw [if_neg c0]
    by_cases c1:k.1=1
    ·rw [if_pos c1]
     exact ⟨by simp only; omega,by simp only; omega,fun _=>⟨by simp only; omega,by simp only [aJ,aK]; omega⟩⟩
    rw [if_neg c1]
    by_cases c2:k.2.1=[116,114,117,101]
    ·rw [if_pos c2]
     exact ⟨by simp only; omega,by simp only; omega,fun _=>⟨by simp only; omega,by simp only [aJ,aK]; omega⟩⟩
    rw [if_neg c2]
    by_cases c3:k.2.1=[102,97,108,115,101]
    ·rw [if_pos c3]
     exact ⟨by simp only; omega,by simp only; omega,fun _=>⟨by simp only; omega,by simp only [aJ,aK]; omega⟩⟩
    rw [if_neg c3]
    by_cases c4:k.2.1=[35,49]
    ·rw [if_pos c4]
     have g1b:=ihO (i+1) (by omega)
     generalize pA l n (i+1)=g1 at *
     obtain ⟨g11,g12,g13⟩:=g1b
     refine aT (by omega) g12 fun h1=>?_
     have g13:=g13 h1
     exact ⟨by simp only; omega,by simp only; omega,fun _=>⟨by simp only; omega,by simp only [aJ,aD,aK]; omega⟩⟩
    rw [if_neg c4]
    by_cases c5:k.2.1=[35,50]
    ·rw [if_pos c5]
     have g1b:=ihO (i+1) (by omega)
     generalize pA l n (i+1)=g1 at *
     obtain ⟨g11,g12,g13⟩:=g1b
     refine aT (by omega) g12 fun h1=>?_
     have g13:=g13 h1
     exact ⟨by simp only; omega,by simp only; omega,fun _=>⟨by simp only; omega,by simp only [aJ,aD,aK]; omega⟩⟩
    rw [if_neg c5]
    by_cases c6:bE l ((i+1:Nat):Int) [41]=true
    ·rw [if_pos c6]
     have:=aX c6
     exact ⟨by simp only; omega,by simp only; omega,fun _=>⟨by simp only; omega,by simp only [aJ,aK]; omega⟩⟩
    rw [if_neg c6]
    have g1b:=ihE (i+1) (by omega)
    generalize fD l n (i+1)=g1 at *
    obtain ⟨g11,g12,g13⟩:=g1b
    refine aT (by omega) g12 fun h1=>?_
    have g13:=g13 h1
    by_cases c7:bE l (g1.2.1:Int) [44]=true
    ·rw [if_pos c7]
     have:=aX c7
     have g2b:=ihE (g1.2.1+1) (by omega)
     generalize fD l n (g1.2.1+1)=g2 at *
     obtain ⟨g21,g22,g23⟩:=g2b
     refine aT (by omega) g22 fun h2=>?_
     have g23:=g23 h2
     have g3b:=eN l [[41]] g2.2.1 (by omega)
     generalize ks l [[41]] g2.2.1=g3 at *
     obtain ⟨g31,g32⟩:=g3b
     refine aT (by omega) g32 fun h3=>?_
     exact ⟨by simp only; omega,by simp only; omega,fun _=>⟨by simp only; omega,by simp only [aJ,aD,aK]; omega⟩⟩
    rw [if_neg c7]
    have g3b:=eN l [[41]] g1.2.1 (by omega)
    generalize ks l [[41]] g1.2.1=g3 at *
    obtain ⟨g31,g32⟩:=g3b
    refine aT (by omega) g32 fun h3=>?_
    exact ⟨by simp only; omega,by simp only; omega,fun _=>⟨by simp only; omega,by simp only; omega⟩⟩
   ·rw [if_neg ks0]; exact nG (Nat.le_refl _) hi (by decide)
end
end Go.Proofs.YtjhfgiieicloeaaGreatDoor

