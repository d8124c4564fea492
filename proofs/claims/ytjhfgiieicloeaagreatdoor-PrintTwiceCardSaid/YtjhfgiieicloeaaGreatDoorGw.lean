/- Joined texts: X1, X2, X4d, Y0, Y1, Y2. -/
import Derived.Test.YtjhfgiieicloeaaGreatDoorGq
/- The parser of types, by itself: keys, names, what it does behind an error. -/
namespace Go.Proofs.YtjhfgiieicloeaaGreatDoor
open Go Go.Am Go.Sx
abbrev aF:=Int×List UInt8×Int×Int
def aGw (l:List aF) (i:Int):Option aF:=if 0≤i∧i<(l.length:Int) then aZ l i else none
def aU (l:List aF) (i:Int) (t:List UInt8):Bool:=match aGw l i with
 | some k=>decide (k.1=3) && decide (k.2.1=t)
 | none=>false
def kS (l:List aF) (i:Int):List UInt8×Bool:=match aGw l i with
 | some k=>if k.1=1∧fH k.2.1=true then (k.2.1,true) else ([],false)
 | none=>([],false)
def yH (l:List aF) (i:Int):List UInt8×Bool:=match aGw l i with
 | some k=>if k.1=1∧lgS k.2.1=true then (k.2.1,true) else ([],false)
 | none=>([],false)
theorem aBB {l:List aF} {i:Int} (h:¬ (0≤i∧i<(l.length:Int))):aGw l i=none:=if_neg h
theorem aDd {l:List aF} {i:Int} (h:0≤i∧i<(l.length:Int)):∃ k,k∈l∧aZ l i=some k∧aGw l i=some k:=by
 have hlt:i.toNat<l.length:=by omega
 exact ⟨l[i.toNat],List.getElem_mem hlt,aWZ h.1 hlt,by unfold aGw; rw [if_pos h]; exact aWZ h.1 hlt⟩
theorem aN {l:List aF} {i:Int} {t:List UInt8} (h:aU l i t=true):0≤i∧i<(l.length:Int):=by
 by_cases hi:0≤i∧i<(l.length:Int)
 ·exact hi
 ·unfold aU at h; rw [aBB hi] at h; cases h
theorem aK5 {l:List aF} {i:Int} (h:(kS l i).2=true):0≤i∧i<(l.length:Int):=by
 by_cases hi:0≤i∧i<(l.length:Int)
 ·exact hi
 ·unfold kS at h; rw [aBB hi] at h; cases h
theorem aVF {l:List aF} {i:Int} (h:(yH l i).2=true):0≤i∧i<(l.length:Int):=by
 by_cases hi:0≤i∧i<(l.length:Int)
 ·exact hi
 ·unfold yH at h; rw [aBB hi] at h; cases h
section
theorem bBe {l:List aF} (i:Int):Ev (fun K=>aFz K l i) (decide (0≤i∧i<(l.length:Int))):=by
 refine Ev.congr (f:=fun K=>_) ?_ (fun k=>by rw [aFz])
 refine Ev.d (fun h=>Ev.pure' ?_) (fun h=>Ev.pure' (by rw [decide_eq_false (fun h'=>h h'.1)]))
 by_cases h2:i<(l.length:Int)
 ·rw [decide_eq_true h2,decide_eq_true ⟨h,h2⟩]
 ·rw [decide_eq_false h2,decide_eq_false fun h'=>h2 h'.2]
theorem aC3 (l:List aF) (i:Int) (t:List UInt8):Ev (fun K=>lK K l i t) (aU l i t):=by
 refine Ev.congr (f:=fun K=>_) ?_ (fun k=>by rw [lK])
 refine Ev.bind (bBe i) ?_
 unfold aU
 by_cases h:0≤i∧i<(l.length:Int)
 ·obtain ⟨k,_,h1,h2⟩:=aDd h
  rw [h2]
  refine Ev.dT h (Ev.opt h1 (Ev.d (fun e=>Ev.opt h1 (Ev.pure' ?_)) (fun e=>Ev.pure' ?_)))
  ·simp only [decide_eq_true e,Bool.true_and]
  ·simp only [decide_eq_false e,Bool.false_and]
 ·rw [aBB h]; exact Ev.dF h Ev.pure
theorem aC9 (l:List aF) (i:Int):Ev (fun K=>wR K l i) (kS l i):=by
 refine Ev.congr (f:=fun K=>_) ?_ (fun k=>by rw [wR])
 refine Ev.bind (bBe i) ?_
 unfold kS
 by_cases h:0≤i∧i<(l.length:Int)
 ·obtain ⟨k,_,h1,h2⟩:=aDd h
  rw [h2]
  refine Ev.nF h (Ev.opt h1 (Ev.n (fun e=>Ev.pure' ?_) (fun e=>Ev.opt h1 (Ev.bind (fE _) ?_))))
  ·simp only []; rw [if_neg fun h'=>e h'.1]
  ·simp only []
   cases hc:fH k.2.1 with
   | false=>rw [if_neg (by simp)]; exact Ev.isT rfl Ev.pure
   | true=>rw [if_pos ⟨e,rfl⟩]; exact Ev.isF rfl (Ev.opt h1 Ev.pure)
 ·rw [aBB h]; exact Ev.nT h Ev.pure
theorem aKC (l:List aF) (i:Int):Ev (fun K=>aAz K l i) (yH l i):=by
 refine Ev.congr (f:=fun K=>_) ?_ (fun k=>by rw [aAz])
 refine Ev.bind (bBe i) ?_
 unfold yH
 by_cases h:0≤i∧i<(l.length:Int)
 ·obtain ⟨k,_,h1,h2⟩:=aDd h
  rw [h2]
  refine Ev.nF h (Ev.opt h1 (Ev.n (fun e=>Ev.pure' ?_) (fun e=>Ev.opt h1 (Ev.bind (aBf _) ?_))))
  ·simp only []; rw [if_neg fun h'=>e h'.1]
  ·simp only []
   cases hc:lgS k.2.1 with
   | false=>rw [if_neg (by simp)]; exact Ev.isT rfl Ev.pure
   | true=>rw [if_pos ⟨e,rfl⟩]; exact Ev.isF rfl (Ev.opt h1 Ev.pure)
 ·rw [aBB h]; exact Ev.nT h Ev.pure
end
/-! ### the program's parser, behind an error -/
section
variable (l:List aF) (i e:Int) (he:e≠0)
include he
theorem aK0 (t:List UInt8):Ev (fun K=>bP K l i e t) (false,l,i,e) :=
 Ev.congr (f:=fun K=>_) (Ev.nT he Ev.pure) (fun k=>by rw [bP])
theorem bB1 (c:Int):Ev (fun K=>cZ K l i e c) (l,i,e) :=
 Ev.congr (f:=fun K=>_) (Ev.dF he Ev.pure) (fun k=>by rw [cZ])
theorem aHJ (t:List UInt8):Ev (fun K=>dW K l i e t) (l,i,e):=by
 refine Ev.congr (f:=fun K=>_) ?_ (fun k=>by rw [dW])
 refine Ev.bind (aK0 l i e he t) ?_
 refine Ev.isT rfl ?_
 exact Ev.bind (bB1 l i e he 6) Ev.pure
theorem bCE:Ev (fun K=>bZ K l i e) (.nil,l,i,e) :=
 Ev.step (fun k=>by rw [bZ]) (Ev.nT he Ev.pure)
theorem aZv (t:Tr) (s:List UInt8) (c:Int):Ev (fun K=>kO K l i e t s c) (t,l,i,e):=by
 refine Ev.step (fun k=>by rw [kO]) ?_
 refine Ev.bind (aK0 l i e he s) ?_
 exact Ev.isT rfl Ev.pure
theorem aWt (t:Tr) (s:List UInt8) (c:Int):Ev (fun K=>iO K l i e t s c) (t,l,i,e):=by
 refine Ev.step (fun k=>by rw [iO]) ?_
 refine Ev.bind (aK0 l i e he s) ?_
 exact Ev.isT rfl Ev.pure
theorem aWM:Ev (fun K=>bS K l i e) (.nil,l,i,e) :=
 Ev.step (fun k=>by rw [bS]) (Ev.bind (bCE l i e he) (Ev.bind (aZv l i e he _ _ _) Ev.pure))
theorem aZz:Ev (fun K=>bT K l i e) (.nil,l,i,e) :=
 Ev.step (fun k=>by rw [bT]) (Ev.bind (aWM l i e he) (Ev.bind (aWt l i e he _ _ _) Ev.pure))
theorem aWx:Ev (fun K=>fO K l i e) ([],l,i,e):=by
 refine Ev.step (fun k=>by rw [fO]) ?_
 exact Ev.step (fun k=>by rw [dO]) (Ev.dF he Ev.pure)
theorem aP7 {out:List Tr} (hout:out.length≤1048576) (s:List UInt8) (sn:List (List UInt8×Bool)):∃ out',Ev (fun K=>cB K out s l i e sn) (out',l,i,e):=by
 refine ⟨out++[.node 8 0 s [] [.nil]],Ev.step (fun k=>by rw [cB]) ?_⟩
 refine Ev.bind (aHJ l i e he _) (Ev.bind (aZz l i e he) (Ev.bind (a:=.node 8 0 s [] [.nil]) ⟨0,fun _ _=>rfl⟩ (Ev.opt (dP (by simp; omega)) (Ev.bind (aK0 l i e he _) ?_))))
 exact Ev.isT rfl Ev.pure
theorem aX0 (s:List UInt8):∃ t,Ev (fun K=>cM K s l i e) (t,l,i,e):=by
 refine ⟨.node 7 0 s [] [],Ev.step (fun k=>by rw [cM]) ?_⟩
 exact Ev.bind (aHJ l i e he _) (Ev.bind (aWx l i e he) (Ev.bind (aHJ l i e he _) (Ev.bind (a:=.node 7 0 s [] []) ⟨0,fun _ _=>rfl⟩ Ev.pure)))
end
theorem aGk (c:Int) (s:List UInt8) (ks:List Tr):Ev (fun K=>pT K c s ks) (.node c 0 s [] ks):=⟨0,fun _ _=>rfl⟩
theorem wr1 {i:Nat} (h:i≤40000):IntKind.i64.wrap ((i:Int)+1)=((i+1:Nat):Int):=dE (by omega)
theorem wr2 {i:Nat} (h:i≤40000):IntKind.i64.wrap ((i:Int)+2)=((i+2:Nat):Int):=by rw [fP (by omega) (by omega)]; omega
theorem aHG {l:List aF} {i:Int} {t:List UInt8} (h:aU l i t=false):Ev (fun K=>bP K l i 0 t) (false,l,i,0):=by
 refine Ev.congr (f:=fun K=>_) ?_ (fun k=>by rw [bP])
 refine Ev.nF rfl ?_
 refine Ev.bind (aC3 l i t) ?_
 rw [h]
 exact Ev.isT rfl Ev.pure
theorem aVj {l:List aF} {i:Int} {t:List UInt8} (h:aU l i t=false):Ev (fun K=>dW K l i 0 t) (l,i,6):=by
 refine Ev.congr (f:=fun K=>_) ?_ (fun k=>by rw [dW])
 refine Ev.bind (aHG h) ?_
 refine Ev.isT rfl ?_
 refine Ev.bind (a:=(l,i,6)) (Ev.congr (f:=fun K=>_) (Ev.dT rfl Ev.pure) (fun k=>by rw [cZ])) Ev.pure
theorem bCH {l:List aF} {i:Int} {s:List UInt8} (h:kS l i=(s,false)):Ev (fun K=>fM K l i 0) ([],l,i,6):=by
 have hn:=aC9 l i
 rw [h] at hn
 refine Ev.congr (f:=fun K=>_) ?_ (fun k=>by rw [fM])
 refine Ev.bind hn ?_
 refine Ev.nF rfl ?_
 refine Ev.isT rfl ?_
 exact Ev.bind (a:=(l,i,6)) (Ev.congr (f:=fun K=>_) (Ev.dT rfl Ev.pure) (fun k=>by rw [cZ])) Ev.pure
section
variable {l:List aF} (hl:l.length≤20000)
include hl
theorem aKn {i:Nat} {t:List UInt8} (h:aU l i t=true):Ev (fun K=>bP K l (i:Int) 0 t) (true,l,((i+1:Nat):Int),0):=by
 have:=aN h
 refine Ev.congr (f:=fun K=>_) ?_ (fun k=>by rw [bP])
 refine Ev.nF rfl ?_
 refine Ev.bind (aC3 l i t) ?_
 rw [h]
 refine Ev.isF rfl ?_
 exact Ev.pure' (by rw [wr1 (by omega)])
theorem aJu {i:Nat} {t:List UInt8} (h:aU l i t=true):Ev (fun K=>dW K l (i:Int) 0 t) (l,((i+1:Nat):Int),0):=by
 refine Ev.congr (f:=fun K=>_) ?_ (fun k=>by rw [dW])
 refine Ev.bind (aKn hl h) ?_
 exact Ev.isF rfl Ev.pure
theorem aPj {i:Nat} {s:List UInt8} (h:kS l i=(s,true)):Ev (fun K=>fM K l (i:Int) 0) (s,l,((i+1:Nat):Int),0):=by
 have:=aK5 (l:=l) (i:=i) (by rw [h])
 have hn:=aC9 l i
 rw [h] at hn
 refine Ev.congr (f:=fun K=>_) ?_ (fun k=>by rw [fM])
 refine Ev.bind hn ?_
 refine Ev.nF rfl ?_
 refine Ev.isF rfl ?_
 exact Ev.pure' (by rw [wr1 (by omega)])
end
end Go.Proofs.YtjhfgiieicloeaaGreatDoor

/- The parser of types as a plain function of the tokens. -/
namespace Go.Proofs.YtjhfgiieicloeaaGreatDoor
open Go Go.Am Go.Sx
mutual
def aBc (l:List aF):Nat→Nat→Tr×Nat×Int
 | 0,i=>(.nil,i,6)
 | n+1,i=>match aDj l n i with
  | (a,j,e)=>if e=0 then (if aU l j [45,62]=true then (match aBc l n (j+1) with | (b,j2,e2)=>(if e2=0 then .node 5 0 [] [] [a,b] else .nil,j2,e2)) else (a,j,0)) else (.nil,j,e)
def aDj (l:List aF):Nat→Nat→Tr×Nat×Int
 | 0,i=>(.nil,i,6)
 | n+1,i=>match aDn l n i with
  | (a,j,e)=>if e=0 then (if aU l j [42]=true then (match aDj l n (j+1) with | (b,j2,e2)=>(if e2=0 then .node 6 0 [] [] [a,b] else .nil,j2,e2)) else (a,j,0)) else (.nil,j,e)
def aDn (l:List aF):Nat→Nat→Tr×Nat×Int
 | 0,i=>(.nil,i,6)
 | n+1,i =>
  if (yH l i).2=true then (.node 4 0 (yH l i).1 [] [],i+1,0)
  else if aU l i [105,110,116]=true then (.node 1 0 [] [] [],i+1,0)
  else if aU l i [98,111,111,108]=true then (.node 2 0 [] [] [],i+1,0)
  else if aU l i [117,110,105,116]=true then (.node 3 0 [] [] [],i+1,0)
  else if aU l i [40]=true then (match aBc l n (i+1) with | (t,j,e)=>if e=0 then (if aU l j [41]=true then (t,j+1,0) else (.nil,j,6)) else (.nil,j,e))
  else if aU l i [109,117]=true then
   (if (kS l ((i+1:Nat):Int)).2=true then
    (if aU l ((i+2:Nat):Int) [123]=true then (match aCc l n (i+3) [] with
     | (c,j,e)=>if e=0 then (if aU l j [125]=true then (.node 7 0 (kS l ((i+1:Nat):Int)).1 [] c,j+1,0) else (.nil,j,6)) else (.nil,j,e))
    else (.nil,i+2,6))
   else (.nil,i+1,6))
  else (.nil,i,6)
def aCc (l:List aF):Nat→Nat→List Tr→List Tr×Nat×Int
 | 0,i,_=>([],i,6)
 | n+1,i,out =>
  if (kS l i).2=true then
   (if (kS l i).1∈out.map nameOf then ([],i,9)
   else if aU l ((i+1:Nat):Int) [111,102]=true then (match aBc l n (i+2) with
    | (t,j,e)=>if e=0 then (if aU l j [124]=true then aCc l n (j+1) (out++[.node 8 0 (kS l i).1 [] [t]]) else (out++[.node 8 0 (kS l i).1 [] [t]],j,0)) else ([],j,e))
   else ([],i+1,6))
  else ([],i,6)
end
def PS (l:List aF) (f:Nat→List aF→Int→Int→Option (Tr×List aF×Int×Int)) (i:Nat) (g:Tr×Nat×Int):Prop :=
 ∃ t',Ev (fun K=>f K l (i:Int) 0) (t',l,((g.2.1:Nat):Int),g.2.2)∧(g.2.2=0→t'=g.1∧i<g.2.1∧g.1.w+i≤g.2.1)∧i≤g.2.1∧g.2.1≤l.length
def PSC (l:List aF) (i:Nat) (out:List Tr) (g:List Tr×Nat×Int):Prop :=
 ∀ sn:List (List UInt8×Bool),(∀ s,(jN sn s).getD false=decide (s∈out.map nameOf))→out.length≤i →
  ∃ c',Ev (fun K=>dO K out l (i:Int) 0 sn) (c',l,((g.2.1:Nat):Int),g.2.2)∧(g.2.2=0→c'=g.1∧i<g.2.1∧wL g.1+i≤wL out+g.2.1)∧i≤g.2.1∧g.2.1≤l.length
section
variable {l:List aF} (hl:l.length≤20000)
include hl
theorem bEp {n i:Nat} (hat:PS l bZ i (aDn l n i)) (hpr:∀ j,i<j→j≤l.length→PS l bS j (aDj l n j)):PS l bS i (aDj l (n+1) i):=by
 rw [aDj]
 generalize aDn l n i=g at *
 obtain ⟨t,j,er⟩:=g
 obtain ⟨t',h1,h5,h4,h3⟩:=hat
 simp only at h1 h5 h4 h3 ⊢
 by_cases he:er=0
 ·subst he
  obtain ⟨e1,e2,e3⟩:=h5 rfl
  subst e1
  rw [if_pos rfl]
  cases hk:aU l j [42] with
  | false =>
   rw [if_neg (by simp)]
   refine ⟨t',?_,fun _=>⟨rfl,e2,e3⟩,h4,h3⟩
   refine Ev.step (fun k=>by rw [bS]) ?_
   refine Ev.bind h1 ?_
   refine Ev.bind (a:=(t',l,(j:Int),0)) ?_ Ev.pure
   refine Ev.step (fun k=>by rw [kO]) ?_
   refine Ev.bind (aHG hk) ?_
   exact Ev.isT rfl Ev.pure
  | true =>
   rw [if_pos rfl]
   have hin:=aN hk
   have hp:=hpr (j+1) (by omega) (by omega)
   generalize aDj l n (j+1)=g2 at *
   obtain ⟨u,j',er'⟩:=g2
   obtain ⟨u',g1,g5,g4,g3⟩:=hp
   simp only at g1 g5 g4 g3 ⊢
   refine ⟨.node 6 0 [] [] [t',u'],?_,fun h=>?_,by simp only; omega,g3⟩
   ·refine Ev.step (fun k=>by rw [bS]) ?_
    refine Ev.bind h1 ?_
    refine Ev.bind (a:=(.node 6 0 [] [] [t',u'],l,(j':Int),er')) ?_ Ev.pure
    refine Ev.step (fun k=>by rw [kO]) ?_
    refine Ev.bind (aKn hl hk) ?_
    refine Ev.isF rfl ?_
    exact Ev.bind g1 (Ev.bind (aGk ..) Ev.pure)
   ·simp only at h ⊢
    obtain ⟨q1,q2,q3⟩:=g5 h
    subst q1
    rw [if_pos h]
    refine ⟨rfl,by omega,?_⟩
    rw [aH,aC,aC,aI]; omega
 ·rw [if_neg he]
  refine ⟨t',?_,fun h=>absurd h he,h4,h3⟩
  refine Ev.step (fun k=>by rw [bS]) ?_
  refine Ev.bind h1 ?_
  exact Ev.bind (aZv l j er he _ _ _) Ev.pure
theorem bHB {n i:Nat} (hat:PS l bS i (aDj l n i)) (hpr:∀ j,i<j→j≤l.length→PS l bT j (aBc l n j)):PS l bT i (aBc l (n+1) i):=by
 rw [aBc]
 generalize aDj l n i=g at *
 obtain ⟨t,j,er⟩:=g
 obtain ⟨t',h1,h5,h4,h3⟩:=hat
 simp only at h1 h5 h4 h3 ⊢
 by_cases he:er=0
 ·subst he
  obtain ⟨e1,e2,e3⟩:=h5 rfl
  subst e1
  rw [if_pos rfl]
  cases hk:aU l j [45,62] with
  | false =>
   rw [if_neg (by simp)]
   refine ⟨t',?_,fun _=>⟨rfl,e2,e3⟩,h4,h3⟩
   refine Ev.step (fun k=>by rw [bT]) ?_
   refine Ev.bind h1 ?_
   refine Ev.bind (a:=(t',l,(j:Int),0)) ?_ Ev.pure
   refine Ev.step (fun k=>by rw [iO]) ?_
   refine Ev.bind (aHG hk) ?_
   exact Ev.isT rfl Ev.pure
  | true =>
   rw [if_pos rfl]
   have hin:=aN hk
   have hp:=hpr (j+1) (by omega) (by omega)
   generalize aBc l n (j+1)=g2 at *
   obtain ⟨u,j',er'⟩:=g2
   obtain ⟨u',g1,g5,g4,g3⟩:=hp
   simp only at g1 g5 g4 g3 ⊢
   refine ⟨.node 5 0 [] [] [t',u'],?_,fun h=>?_,by simp only; omega,g3⟩
   ·refine Ev.step (fun k=>by rw [bT]) ?_
    refine Ev.bind h1 ?_
    refine Ev.bind (a:=(.node 5 0 [] [] [t',u'],l,(j':Int),er')) ?_ Ev.pure
    refine Ev.step (fun k=>by rw [iO]) ?_
    refine Ev.bind (aKn hl hk) ?_
    refine Ev.isF rfl ?_
    exact Ev.bind g1 (Ev.bind (aGk ..) Ev.pure)
   ·simp only at h ⊢
    obtain ⟨q1,q2,q3⟩:=g5 h
    subst q1
    rw [if_pos h]
    refine ⟨rfl,by omega,?_⟩
    rw [aH,aC,aC,aI]; omega
 ·rw [if_neg he]
  refine ⟨t',?_,fun h=>absurd h he,h4,h3⟩
  refine Ev.step (fun k=>by rw [bT]) ?_
  refine Ev.bind h1 ?_
  exact Ev.bind (aWt l j er he _ _ _) Ev.pure
theorem bDN {n i:Nat} (hi:i≤l.length) (hty:∀ j,i<j→j≤l.length→PS l bT j (aBc l n j)) (hco:∀ j,i<j→j≤l.length→PSC l j [] (aCc l n j [])):PS l bZ i (aDn l (n+1) i):=by
 rw [aDn]
 have hpL:=aKC l i
 have hin:=aVF (l:=l) (i:=i)
 generalize yH l i=L at *
 obtain ⟨s,b⟩:=L
 simp only at hin ⊢
 have one:∀ c nm,(Tr.node c 0 nm [] []).w=1:=fun c nm=>by rw [aH,aI]
 cases b with
 | true =>
  have hin:=hin rfl
  rw [if_pos rfl]
  refine ⟨.node 4 0 s [] [],?_,fun _=>⟨rfl,by simp only; omega,by simp only [one]; omega⟩,by simp only; omega,by simp only; omega⟩
  refine Ev.step (fun k=>by rw [bZ]) ?_
  refine Ev.nF rfl ?_
  refine Ev.bind hpL ?_
  refine Ev.isT rfl ?_
  exact Ev.bind (aGk ..) (Ev.pure' (by rw [wr1 (by omega)]))
 | false =>
  rw [if_neg (by simp)]
  cases k1:aU l i [105,110,116] with
  | true =>
   have hin:=aN k1
   rw [if_pos rfl]
   refine ⟨.node 1 0 [] [] [],?_,fun _=>⟨rfl,by simp only; omega,by simp only [one]; omega⟩,by simp only; omega,by simp only; omega⟩
   refine Ev.step (fun k=>by rw [bZ]) ?_
   refine Ev.nF rfl ?_
   refine Ev.bind hpL ?_
   refine Ev.isF rfl ?_
   refine Ev.bind (aKn hl k1) ?_
   refine Ev.isT rfl ?_
   exact Ev.bind (aGk ..) Ev.pure
  | false =>
  rw [if_neg (by simp)]
  cases k2:aU l i [98,111,111,108] with
  | true =>
   have hin:=aN k2
   rw [if_pos rfl]
   refine ⟨.node 2 0 [] [] [],?_,fun _=>⟨rfl,by simp only; omega,by simp only [one]; omega⟩,by simp only; omega,by simp only; omega⟩
   refine Ev.step (fun k=>by rw [bZ]) ?_
   refine Ev.nF rfl ?_
   refine Ev.bind hpL ?_
   refine Ev.isF rfl ?_
   refine Ev.bind (aHG k1) ?_
   refine Ev.isF rfl ?_
   refine Ev.bind (aKn hl k2) ?_
   refine Ev.isT rfl ?_
   exact Ev.bind (aGk ..) Ev.pure
  | false =>
  rw [if_neg (by simp)]
  cases k3:aU l i [117,110,105,116] with
  | true =>
   have hin:=aN k3
   rw [if_pos rfl]
   refine ⟨.node 3 0 [] [] [],?_,fun _=>⟨rfl,by simp only; omega,by simp only [one]; omega⟩,by simp only; omega,by simp only; omega⟩
   refine Ev.step (fun k=>by rw [bZ]) ?_
   refine Ev.nF rfl ?_
   refine Ev.bind hpL ?_
   refine Ev.isF rfl ?_
   refine Ev.bind (aHG k1) ?_
   refine Ev.isF rfl ?_
   refine Ev.bind (aHG k2) ?_
   refine Ev.isF rfl ?_
   refine Ev.bind (aKn hl k3) ?_
   refine Ev.isT rfl ?_
   exact Ev.bind (aGk ..) Ev.pure
  | false =>
  rw [if_neg (by simp)]
  have prog:∀ {v:Tr×List aF×Int×Int},Ev (fun K=>(bP K l (i:Int) 0 [40]).bind fun (v19,v20,v21,v22)=>(iteS v19 ((bT K v20 v21 v22).bind fun (v23,v24,v25,v26)=>((dW K v24 v25 v26 ([41]:List UInt8)).bind fun (v27,v28,v29)=>(some (v23,v27,v28,v29)))) ((bP K v20 v21 v22 ([109,117]:List UInt8)).bind fun (v30,v31,v32,v33)=>(iteS v30 ((fM K v31 v32 v33).bind fun (v34,v35,v36,v37)=>(cM K v34 v35 v36 v37)) ((cZ K v31 v32 v33 6).bind fun (v50,v51,v52)=>(some (.nil,v50,v51,v52))))))) v→Ev (fun K=>bZ K l (i:Int) 0) v:=fun h=>by
   refine Ev.step (fun k=>by rw [bZ]) ?_
   refine Ev.nF rfl ?_
   refine Ev.bind hpL ?_
   refine Ev.isF rfl ?_
   refine Ev.bind (aHG k1) ?_
   refine Ev.isF rfl ?_
   refine Ev.bind (aHG k2) ?_
   refine Ev.isF rfl ?_
   refine Ev.bind (aHG k3) ?_
   refine Ev.isF rfl ?_
   exact h
  cases k4:aU l i [40] with
  | true =>
   have hin:=aN k4
   rw [if_pos rfl]
   have hp:=hty (i+1) (by omega) (by omega)
   generalize aBc l n (i+1)=g at *
   obtain ⟨t,j,er⟩:=g
   obtain ⟨t',h1,h5,h4,h3⟩:=hp
   simp only at h1 h5 h4 h3 ⊢
   by_cases he:er=0
   ·subst he
    obtain ⟨e1,e2,e3⟩:=h5 rfl
    subst e1
    rw [if_pos rfl]
    cases k5:aU l j [41] with
    | true =>
     have hin5:=aN k5
     rw [if_pos rfl]
     refine ⟨t',prog ?_,fun _=>⟨rfl,by simp only; omega,by simp only; omega⟩,by simp only; omega,by simp only; omega⟩
     refine Ev.bind (aKn hl k4) ?_
     refine Ev.isT rfl ?_
     refine Ev.bind h1 ?_
     exact Ev.bind (aJu hl k5) Ev.pure
    | false =>
     rw [if_neg (by simp)]
     refine ⟨t',prog ?_,fun h=>(by cases h),by simp only; omega,by simp only; omega⟩
     refine Ev.bind (aKn hl k4) ?_
     refine Ev.isT rfl ?_
     refine Ev.bind h1 ?_
     exact Ev.bind (aVj k5) Ev.pure
   ·rw [if_neg he]
    refine ⟨t',prog ?_,fun h=>absurd h he,by simp only; omega,by simp only; omega⟩
    refine Ev.bind (aKn hl k4) ?_
    refine Ev.isT rfl ?_
    refine Ev.bind h1 ?_
    exact Ev.bind (aHJ l j er he _) Ev.pure
  | false =>
  rw [if_neg (by simp)]
  cases k5:aU l i [109,117] with
  | false =>
   rw [if_neg (by simp)]
   refine ⟨.nil,prog ?_,fun h=>(by cases h),Nat.le_refl _,hi⟩
   refine Ev.bind (aHG k4) ?_
   refine Ev.isF rfl ?_
   refine Ev.bind (aHG k5) ?_
   refine Ev.isF rfl ?_
   exact Ev.bind (a:=(l,(i:Int),6)) (Ev.congr (f:=fun K=>_) (Ev.dT rfl Ev.pure) (fun k=>by rw [cZ])) Ev.pure
  | true =>
   have hin:=aN k5
   rw [if_pos rfl]
   have prog2:∀ {v:Tr×List aF×Int×Int} {s:List UInt8} {a:Int} {e:Int},Ev (fun K=>fM K l ((i+1:Nat):Int) 0) (s,l,a,e)→Ev (fun K=>cM K s l a e) v→Ev (fun K=>bZ K l (i:Int) 0) v:=fun hn hc=>prog (by
    refine Ev.bind (aHG k4) ?_
    refine Ev.isF rfl ?_
    refine Ev.bind (aKn hl k5) ?_
    refine Ev.isT rfl ?_
    exact Ev.bind hn hc)
   have hni:=aK5 (l:=l) (i:=((i+1:Nat):Int))
   generalize hN:kS l ((i+1:Nat):Int)=N at *
   obtain ⟨s,b⟩:=N
   simp only at hni ⊢
   cases b with
   | false =>
    rw [if_neg (by simp)]
    obtain ⟨t,ht⟩:=aX0 l ((i+1:Nat):Int) 6 (by decide) []
    exact ⟨t,prog2 (bCH hN) ht,fun h=>(by cases h),by simp only; omega,by simp only; omega⟩
   | true =>
    have hni:=hni rfl
    rw [if_pos rfl]
    cases k6:aU l ((i+2:Nat):Int) [123] with
    | false =>
     rw [if_neg (by simp)]
     refine ⟨.node 7 0 s [] [],prog2 (aPj hl hN) ?_,fun h=>(by cases h),by simp only; omega,by simp only; omega⟩
     refine Ev.step (fun k=>by rw [cM]) ?_
     refine Ev.bind (aVj (l:=l) (i:=((i+2:Nat):Int)) k6) ?_
     refine Ev.bind (aWx l _ 6 (by decide)) ?_
     refine Ev.bind (aHJ l _ 6 (by decide) _) ?_
     exact Ev.bind (aGk ..) Ev.pure
    | true =>
     have hin6:=aN k6
     rw [if_pos rfl]
     have hc:=hco (i+3) (by omega) (by omega) [] (fun s=>by simp [jN]) (by simp)
     generalize aCc l n (i+3) []=g at *
     obtain ⟨c,j,er⟩:=g
     obtain ⟨c',h1,h5,h4,h3⟩:=hc
     simp only [aI] at h1 h5 h4 h3 ⊢
     have h1':Ev (fun K=>fO K l ((i+3:Nat):Int) 0) (c',l,(j:Int),er):=Ev.step (fun k=>by rw [fO]) h1
     by_cases he:er=0
     ·subst he
      obtain ⟨e1,e2,e3⟩:=h5 rfl
      subst e1
      rw [if_pos rfl]
      cases k7:aU l j [125] with
      | true =>
       have hin7:=aN k7
       rw [if_pos rfl]
       refine ⟨.node 7 0 s [] c',prog2 (aPj hl hN) ?_,fun _=>⟨rfl,by simp only; omega,by simp only [aH]; omega⟩,by simp only; omega,by simp only; omega⟩
       refine Ev.step (fun k=>by rw [cM]) ?_
       refine Ev.bind (aJu hl (i:=i+2) k6) ?_
       refine Ev.bind h1' ?_
       refine Ev.bind (aJu hl k7) ?_
       exact Ev.bind (aGk ..) Ev.pure
      | false =>
       rw [if_neg (by simp)]
       refine ⟨.node 7 0 s [] c',prog2 (aPj hl hN) ?_,fun h=>(by cases h),by simp only; omega,by simp only; omega⟩
       refine Ev.step (fun k=>by rw [cM]) ?_
       refine Ev.bind (aJu hl (i:=i+2) k6) ?_
       refine Ev.bind h1' ?_
       refine Ev.bind (aVj k7) ?_
       exact Ev.bind (aGk ..) Ev.pure
     ·rw [if_neg he]
      refine ⟨.node 7 0 s [] c',prog2 (aPj hl hN) ?_,fun h=>absurd h he,by simp only; omega,by simp only; omega⟩
      refine Ev.step (fun k=>by rw [cM]) ?_
      refine Ev.bind (aJu hl (i:=i+2) k6) ?_
      refine Ev.bind h1' ?_
      refine Ev.bind (aHJ l j er he _) ?_
      exact Ev.bind (aGk ..) Ev.pure
theorem bEC {n i:Nat} {out:List Tr} (hi:i≤l.length) (hty:∀ j,i<j→j≤l.length→PS l bT j (aBc l n j)) (hco:∀ j out,i<j→j≤l.length→PSC l j out (aCc l n j out)):PSC l i out (aCc l (n+1) i out):=by
 intro sn hsn ho
 rw [aCc]
 have hni:=aK5 (l:=l) (i:=(i:Int))
 generalize hN:kS l (i:Int)=N at *
 obtain ⟨s,b⟩:=N
 simp only at hni ⊢
 cases b with
 | false =>
  rw [if_neg (by simp)]
  obtain ⟨out',hc0⟩:=aP7 l (i:Int) 6 (by decide) (out:=out) (by omega) [] sn
  refine ⟨out',?_,fun h=>(by cases h),Nat.le_refl _,hi⟩
  refine Ev.step (fun k=>by rw [dO]) ?_
  refine Ev.dT rfl ?_
  refine Ev.bind (bCH hN) ?_
  refine Ev.dF (by decide) ?_
  exact hc0
 | true =>
  have hni:=hni rfl
  rw [if_pos rfl]
  by_cases hdup:s∈out.map nameOf
  ·rw [if_pos hdup]
   obtain ⟨out',hc0⟩:=aP7 l (i:Int) 9 (by decide) (out:=out) (by omega) s sn
   refine ⟨out',?_,fun h=>(by cases h),Nat.le_refl _,hi⟩
   refine Ev.step (fun k=>by rw [dO]) ?_
   refine Ev.dT rfl ?_
   refine Ev.bind (aPj hl hN) ?_
   refine Ev.dT rfl ?_
   refine Ev.isT (by rw [hsn]; exact decide_eq_true hdup) ?_
   exact Ev.bind (a:=(l,(i:Int),9)) (Ev.congr (f:=fun K=>_) (Ev.dT rfl Ev.pure) (fun k=>by rw [cZ])) hc0
  ·rw [if_neg hdup]
   have prog:∀ {v:List Tr×List aF×Int×Int},Ev (fun K=>cB K out s l ((i+1:Nat):Int) 0 sn) v→Ev (fun K=>dO K out l (i:Int) 0 sn) v:=fun h=>by
    refine Ev.step (fun k=>by rw [dO]) ?_
    refine Ev.dT rfl ?_
    refine Ev.bind (aPj hl hN) ?_
    refine Ev.dT rfl ?_
    refine Ev.isF (by rw [hsn]; exact decide_eq_false hdup) ?_
    exact h
   cases k1:aU l ((i+1:Nat):Int) [111,102] with
   | false =>
    rw [if_neg (by simp)]
    refine ⟨out++[.node 8 0 s [] [.nil]],prog ?_,fun h=>(by cases h),by simp only; omega,by simp only; omega⟩
    refine Ev.step (fun k=>by rw [cB]) ?_
    refine Ev.bind (aVj k1) ?_
    refine Ev.bind (aZz l _ 6 (by decide)) ?_
    refine Ev.bind (aGk ..) ?_
    refine Ev.opt (dP (by simp; omega)) ?_
    refine Ev.bind (aK0 l _ 6 (by decide) _) ?_
    exact Ev.isT rfl Ev.pure
   | true =>
    have hin1:=aN k1
    rw [if_pos rfl]
    have hp:=hty (i+2) (by omega) (by omega)
    generalize aBc l n (i+2)=g at *
    obtain ⟨t,j,er⟩:=g
    obtain ⟨t',h1,h5,h4,h3⟩:=hp
    simp only at h1 h5 h4 h3 ⊢
    by_cases he:er=0
    ·subst he
     obtain ⟨e1,e2,e3⟩:=h5 rfl
     subst e1
     rw [if_pos rfl]
     have hw1:(Tr.node 8 0 s [] [t']).w=1+t'.w:=by rw [aH,aC,aI]; omega
     have hwo:wL (out++[.node 8 0 s [] [t']])=wL out+1+t'.w:=by
      rw [aHo,aC,aI,hw1]; omega
     cases k2:aU l j [124] with
     | false =>
      rw [if_neg (by simp)]
      refine ⟨out++[.node 8 0 s [] [t']],prog ?_,fun _=>⟨rfl,by simp only; omega,by simp only; omega⟩,by simp only; omega,h3⟩
      refine Ev.step (fun k=>by rw [cB]) ?_
      refine Ev.bind (aJu hl k1) ?_
      refine Ev.bind h1 ?_
      refine Ev.bind (aGk ..) ?_
      refine Ev.opt (dP (by simp; omega)) ?_
      refine Ev.bind (aHG k2) ?_
      exact Ev.isT rfl Ev.pure
     | true =>
      have hin2:=aN k2
      rw [if_pos rfl]
      obtain ⟨c',g1,g5,g4,g3⟩:=hco (j+1) (out++[.node 8 0 s [] [t']]) (by omega) (by omega) (aFL sn s true) (by
       intro s'
       rw [aRX,hsn]
       by_cases e:s'=s
       ·rw [if_pos e]; simp [nameOf,e]
       ·rw [if_neg e]; simp [nameOf,e]) (by simp; omega)
      refine ⟨c',prog ?_,fun h=>?_,by omega,g3⟩
      ·refine Ev.step (fun k=>by rw [cB]) ?_
       refine Ev.bind (aJu hl k1) ?_
       refine Ev.bind h1 ?_
       refine Ev.bind (aGk ..) ?_
       refine Ev.opt (dP (by simp; omega)) ?_
       refine Ev.bind (aKn hl k2) ?_
       refine Ev.isF rfl ?_
       exact g1
      ·obtain ⟨q1,q2,q3⟩:=g5 h
       exact ⟨q1,by omega,by omega⟩
    ·rw [if_neg he]
     refine ⟨out++[.node 8 0 s [] [t']],prog ?_,fun h=>absurd h he,by simp only; omega,h3⟩
     refine Ev.step (fun k=>by rw [cB]) ?_
     refine Ev.bind (aJu hl k1) ?_
     refine Ev.bind h1 ?_
     refine Ev.bind (aGk ..) ?_
     refine Ev.opt (dP (by simp; omega)) ?_
     refine Ev.bind (aK0 l j er he _) ?_
     exact Ev.isT rfl Ev.pure
theorem aWe:∀ (n i:Nat),i≤l.length →
  (3 * (l.length - i)+3≤n→PS l bT i (aBc l n i))∧(3 * (l.length - i)+2≤n→PS l bS i (aDj l n i))∧(3 * (l.length - i)+1≤n→PS l bZ i (aDn l n i)) ∧
  (3 * (l.length - i)+1≤n→∀ out,PSC l i out (aCc l n i out)):=by
 intro n
 induction n with
 | zero=>intro i hi; exact ⟨fun h=>by omega,fun h=>by omega,fun h=>by omega,fun h=>by omega⟩
 | succ n ih =>
  intro i hi
  refine ⟨fun h=>?_,fun h=>?_,fun h=>?_,fun h out=>?_⟩
  ·exact bHB hl ((ih i hi).2.1 (by omega)) fun j h1 h2=>(ih j h2).1 (by omega)
  ·exact bEp hl ((ih i hi).2.2.1 (by omega)) fun j h1 h2=>(ih j h2).2.1 (by omega)
  ·exact bDN hl hi (fun j h1 h2=>(ih j h2).1 (by omega)) fun j h1 h2=>(ih j h2).2.2.2 (by omega) []
  ·exact bEC hl hi (fun j h1 h2=>(ih j h2).1 (by omega)) fun j out h1 h2=>(ih j h2).2.2.2 (by omega) out
end
end Go.Proofs.YtjhfgiieicloeaaGreatDoor

/- The parser of types at a place: the answer. -/
namespace Go.Proofs.YtjhfgiieicloeaaGreatDoor
open Go Go.Am Go.Sx
section
variable {l:List aF} (hl:l.length≤20000)
include hl
theorem aWA {i:Int} (h:0≤i∧i≤(l.length:Int)):Ev (fun K=>aAV K l i) (l,i,0):=by
 have:=hl
 refine Ev.congr (f:=fun K=>_) ?_ (fun k=>by rw [aAV])
 exact Ev.dF (by omega) (Ev.dF (by omega) Ev.pure)

end
end Go.Proofs.YtjhfgiieicloeaaGreatDoor

/- The parser of types at a place: what the plain function tells. -/
namespace Go.Proofs.YtjhfgiieicloeaaGreatDoor
open Go Go.Am Go.Sx
section
variable {l:List aF} (hl:l.length≤20000)
include hl
theorem bFq {i:Nat} (hi:i≤l.length):(i≤(aBc l (3 * l.length+3) i).2.1∧(aBc l (3 * l.length+3) i).2.1≤l.length)∧((aBc l (3 * l.length+3) i).2.2=0→i<(aBc l (3 * l.length+3) i).2.1∧(aBc l (3 * l.length+3) i).1.w+i≤(aBc l (3 * l.length+3) i).2.1):=by
 obtain ⟨t',h1,h5,h4,h3⟩:=(aWe hl (3 * l.length+3) i hi).1 (by omega)
 exact ⟨⟨h4,h3⟩,fun h=>(h5 h).2⟩
end
end Go.Proofs.YtjhfgiieicloeaaGreatDoor

/- The parser of expressions as a plain function of the tokens; where it stands. -/
namespace Go.Proofs.YtjhfgiieicloeaaGreatDoor
open Go Go.Am Go.Sx
abbrev RT:=Tr×Nat×Int
def bnd {α β:Type} (d:β) (r:α×Nat×Int) (f:α→Nat→β×Nat×Int):β×Nat×Int:=if r.2.2=0 then f r.1 r.2.1 else (d,r.2.1,r.2.2)
theorem aS {α β:Type} {d:β} {a:α} {j:Nat} {f:α→Nat→β×Nat×Int}:bnd d (a,j,0) f=f a j:=if_pos rfl
def ks (l:List aF):List (List UInt8)→Nat→Unit×Nat×Int
 | [],i=>((),i,0)
 | t :: r,i=>if aU l (i:Int) t=true then ks l r (i+1) else ((),i,6)
def tW (l:List aF) (i:Nat):List UInt8×Nat×Int:=if (kS l (i:Int)).2=true then ((kS l (i:Int)).1,i+1,0) else ([],i,6)
def stS (l:List aF) (i:Nat):Bool:=match aGw l (i:Int) with
 | some k=>if k.1=3 then decide (k.2.1=[116,114,117,101]) || (decide (k.2.1=[102,97,108,115,101]) || (decide (k.2.1=[40]) || (decide (k.2.1=[35,49]) || decide (k.2.1=[35,50]))))
  else if k.1=2 then decide (-1073741824≤k.2.2.1) && decide (k.2.2.1≤1073741824) else decide (k.1=1) && lgS k.2.1
 | none=>false
theorem aTb {l:List aF} {i:Nat} (h:stS l i=true):i<l.length:=by
 by_cases hi:0≤(i:Int)∧(i:Int)<(l.length:Int)
 ·omega
 ·unfold stS at h; rw [aBB hi] at h; cases h
def tyR (l:List aF) (i:Nat):RT:=aBc l (3 * l.length+3) i
def opN (n:Int) (a b:Tr):Tr:=.node 31 n [] [] [a,b]
mutual
def dZ (l:List aF):Nat→Nat→RT
 | 0,i=>(.nil,i,6)
 | n+1,i =>
  if aU l (i:Int) [102,110]=true then bnd .nil (ks l [[40]] (i+1)) fun _ i=>bnd .nil (tW l i) fun s i=>bnd .nil (ks l [[58]] i) fun _ i=>bnd .nil (tyR l i) fun t i=>bnd .nil (ks l [[41],[61,62]] i) fun _ i=>bnd .nil (dZ l n i) fun b i=>(.node 24 0 s [] [t,b],i,0)
  else if aU l (i:Int) [108,101,116]=true then bnd .nil (tW l (i+1)) fun s i=>bnd .nil (ks l [[61]] i) fun _ i=>bnd .nil (dZ l n i) fun a i=>bnd .nil (ks l [[105,110]] i) fun _ i=>bnd .nil (dZ l n i) fun b i=>bnd .nil (ks l [[101,110,100]] i) fun _ i=>(.node 29 0 s [] [a,b],i,0)
  else if aU l (i:Int) [105,102]=true then bnd .nil (dZ l n (i+1)) fun a i=>bnd .nil (ks l [[116,104,101,110]] i) fun _ i=>bnd .nil (dZ l n i) fun b i=>bnd .nil (ks l [[101,108,115,101]] i) fun _ i=>bnd .nil (dZ l n i) fun c i=>(.node 30 0 [] [] [a,b,c],i,0)
  else if aU l (i:Int) [99,97,115,101]=true then bnd .nil (dZ l n (i+1)) fun a i=>bnd .nil (ks l [[111,102]] i) fun _ i=>bnd .nil (vJ l n [] i) fun k i=>(.node 32 0 [] [] (a :: k),i,0)
  else if aU l (i:Int) [102,111,108,100]=true then bnd .nil (dZ l n (i+1)) fun a i=>bnd .nil (ks l [[116,111]] i) fun _ i=>bnd .nil (tyR l i) fun t i=>bnd .nil (ks l [[111,102]] i) fun _ i=>bnd .nil (vJ l n [] i) fun k i=>(.node 33 0 [] [] (a :: t :: k),i,0)
  else aLB l n i
def vJ (l:List aF):Nat→List Tr→Nat→List Tr×Nat×Int
 | 0,_,i=>([],i,6)
 | n+1,out,i=>bnd [] (tW l i) fun c i=>bnd [] (tW l i) fun x i=>bnd [] (ks l [[61,62]] i) fun _ i=>bnd [] (dZ l n i) fun b i =>
  if aU l (i:Int) [124]=true then vJ l n (out++[.node 34 0 c x [b]]) (i+1) else bnd [] (ks l [[101,110,100]] i) fun _ i=>(out++[.node 34 0 c x [b]],i,0)
def aLB (l:List aF):Nat→Nat→RT
 | 0,i=>(.nil,i,6)
 | n+1,i=>bnd .nil (aBo l n i) fun a i =>
  if aU l (i:Int) [61]=true then bnd .nil (aBo l n (i+1)) fun b i=>(opN 4 a b,i,0)
  else if aU l (i:Int) [60]=true then bnd .nil (aBo l n (i+1)) fun b i=>(opN 5 a b,i,0)
  else (a,i,0)
def aBo (l:List aF):Nat→Nat→RT
 | 0,i=>(.nil,i,6)
 | n+1,i=>bnd .nil (qN l n i) fun a i=>aAX l n a i
def aAX (l:List aF):Nat→Tr→Nat→RT
 | 0,_,i=>(.nil,i,6)
 | n+1,a,i =>
  if aU l (i:Int) [43]=true then bnd .nil (qN l n (i+1)) fun b i=>aAX l n (opN 1 a b) i
  else if aU l (i:Int) [45]=true then bnd .nil (qN l n (i+1)) fun b i=>aAX l n (opN 2 a b) i
  else (a,i,0)
def qN (l:List aF):Nat→Nat→RT
 | 0,i=>(.nil,i,6)
 | n+1,i=>bnd .nil (aEd l n i) fun a i=>tH l n a i
def tH (l:List aF):Nat→Tr→Nat→RT
 | 0,_,i=>(.nil,i,6)
 | n+1,a,i=>if aU l (i:Int) [42]=true then bnd .nil (aEd l n (i+1)) fun b i=>tH l n (opN 3 a b) i else (a,i,0)
def aEd (l:List aF):Nat→Nat→RT
 | 0,i=>(.nil,i,6)
 | n+1,i=>bnd .nil (lC l n i) fun a i=>aBZ l n a i
def aBZ (l:List aF):Nat→Tr→Nat→RT
 | 0,_,i=>(.nil,i,6)
 | n+1,a,i=>if stS l i=true then bnd .nil (lC l n i) fun b i=>aBZ l n (.node 25 0 [] [] [a,b]) i else (a,i,0)
def lC (l:List aF):Nat→Nat→RT
 | 0,i=>(.nil,i,6)
 | n+1,i=>if stS l i=true then (match aGw l (i:Int) with
   | none=>(.nil,i,6)
   | some k =>
    if k.1=2 then (.node 20 k.2.2.1 [] [] [],i+1,0)
    else if k.1=1 then (.node 23 0 k.2.1 [] [],i+1,0)
    else if k.2.1=[116,114,117,101] then (.node 21 1 [] [] [],i+1,0)
    else if k.2.1=[102,97,108,115,101] then (.node 21 0 [] [] [],i+1,0)
    else if k.2.1=[35,49] then bnd .nil (lC l n (i+1)) fun a i=>(.node 27 0 [] [] [a],i,0)
    else if k.2.1=[35,50] then bnd .nil (lC l n (i+1)) fun a i=>(.node 28 0 [] [] [a],i,0)
    else if aU l ((i+1:Nat):Int) [41]=true then (.node 22 0 [] [] [],i+2,0)
    else bnd .nil (dZ l n (i+1)) fun a i =>
     if aU l (i:Int) [44]=true then bnd .nil (dZ l n (i+1)) fun b i=>bnd .nil (ks l [[41]] i) fun _ i=>(.node 26 0 [] [] [a,b],i,0)
     else bnd .nil (ks l [[41]] i) fun _ i=>(a,i,0))
  else (.nil,i,6)
end
def Bw {α:Type} (l:List aF) (i:Nat) (g:α×Nat×Int):Prop:=i≤g.2.1∧g.2.1≤l.length
def Yes {α:Type} (g:α×Nat×Int) (p:α→Nat→Prop):Prop:=g.2.2=0→p g.1 g.2.1
theorem aL {α β:Type} {d:β} {r:α×Nat×Int} {f:α→Nat→β×Nat×Int} {p:β→Nat→Prop} (hf:r.2.2=0→Yes (f r.1 r.2.1) p):Yes (bnd d r f) p:=by
 unfold bnd
 by_cases h0:r.2.2=0
 ·rw [if_pos h0]; exact hf h0
 ·rw [if_neg h0]; exact fun h=>absurd h h0
theorem bX (l:List aF):∀ (t:List (List UInt8)) (i:Nat),i≤l.length→Bw l i (ks l t i)
 | [],i,h=>⟨Nat.le_refl _,h⟩
 | t :: r,i,h=>by
  unfold ks
  by_cases hk:aU l (i:Int) t=true
  ·rw [if_pos hk]
   have:=aN hk
   have:=bX l r (i+1) (by omega)
   unfold Bw at *; omega
  ·rw [if_neg hk]; exact ⟨Nat.le_refl _,h⟩
theorem iJ {l:List aF} {i:Nat} (h:i≤l.length):Bw l i (tW l i):=by
 unfold tW
 by_cases hk:(kS l (i:Int)).2=true
 ·rw [if_pos hk]
  have:=aK5 hk
  exact ⟨by simp only; omega,by simp only; omega⟩
 ·rw [if_neg hk]; exact ⟨Nat.le_refl _,h⟩
end Go.Proofs.YtjhfgiieicloeaaGreatDoor

/- Where the parser of expressions stands: bounds of its plain functions. Printed by gen7/y2.py. -/
namespace Go.Proofs.YtjhfgiieicloeaaGreatDoor
open Go Go.Am Go.Sx
def Pz (l:List aF) (i0 lo:Nat) (g:RT):Prop:=i0≤g.2.1∧g.2.1≤l.length∧(g.2.2=0→i0<g.2.1∧g.1.w+1+lo≤2 * g.2.1)
theorem aX {α:Type} {l:List aF} {i0 lo:Nat} {r:α×Nat×Int} {f:α→Nat→RT} (h1:i0≤r.2.1) (h2:r.2.1≤l.length) (hf:r.2.2=0→Pz l i0 lo (f r.1 r.2.1)):Pz l i0 lo (bnd .nil r f):=by
 unfold bnd
 by_cases h0:r.2.2=0
 ·rw [if_pos h0]; exact hf h0
 ·rw [if_neg h0]; exact ⟨h1,h2,fun h=>absurd h h0⟩
def Pq (l:List aF) (i0:Nat) (out:List Tr) (_lo:Nat) (g:List Tr×Nat×Int):Prop:=i0≤g.2.1∧g.2.1≤l.length∧(g.2.2=0→i0<g.2.1∧wL g.1+2 * i0≤wL out+2 * g.2.1)
theorem aTk {α:Type} {l:List aF} {i0 lo:Nat} {out:List Tr} {r:α×Nat×Int} {f:α→Nat→List Tr×Nat×Int} (h1:i0≤r.2.1) (h2:r.2.1≤l.length) (hf:r.2.2=0→Pq l i0 out lo (f r.1 r.2.1)):Pq l i0 out lo (bnd [] r f):=by
 unfold bnd
 by_cases h0:r.2.2=0
 ·rw [if_pos h0]; exact hf h0
 ·rw [if_neg h0]; exact ⟨h1,h2,fun h=>absurd h h0⟩
theorem nK {l:List aF} {i0 lo i:Nat} {e:Int} (h1:i0≤i) (h2:i≤l.length) (he:e≠0):Pz l i0 lo (.nil,i,e):=⟨h1,h2,fun h=>absurd h he⟩
section
variable {l:List aF} (hl:l.length≤20000)
include hl
theorem zT {i:Nat} (hi:i≤l.length):Pz l i (2 * i) (tyR l i):=by
 unfold tyR
 obtain ⟨h2,h3⟩:=bFq hl hi
 refine ⟨h2.1,h2.2,fun h=>?_⟩
 have:=h3 h
 omega
theorem bAm:∀ n i,i≤l.length→Pz l i (2 * i) (dZ l n i)∧(∀ out,Pq l i out 0 (vJ l n out i))∧Pz l i (2 * i) (aLB l n i)∧Pz l i (2 * i) (aBo l n i)∧(∀ i0 lo a,i0<i→a.w+1+lo≤2 * i→Pz l i0 lo (aAX l n a i)) ∧
  Pz l i (2 * i) (qN l n i)∧(∀ i0 lo a,i0<i→a.w+1+lo≤2 * i→Pz l i0 lo (tH l n a i))∧Pz l i (2 * i) (aEd l n i)∧(∀ i0 lo a,i0<i→a.w+1+lo≤2 * i→Pz l i0 lo (aBZ l n a i))∧Pz l i (2 * i) (lC l n i):=by
 intro n
 induction n with
 | zero =>
  intro i hi
  refine ⟨?_,fun out=>?_,?_,?_,fun i0 lo a h _=>?_,?_,fun i0 lo a h _=>?_,?_,fun i0 lo a h _=>?_,?_⟩
  ·rw [dZ]; exact nK (Nat.le_refl _) hi (by decide)
  ·rw [vJ]; exact ⟨Nat.le_refl _,hi,fun h=>absurd (show (6:Int)=0 from h) (by decide)⟩
  ·rw [aLB]; exact nK (Nat.le_refl _) hi (by decide)
  ·rw [aBo]; exact nK (Nat.le_refl _) hi (by decide)
  ·rw [aAX]; exact nK (by omega) hi (by decide)
  ·rw [qN]; exact nK (Nat.le_refl _) hi (by decide)
  ·rw [tH]; exact nK (by omega) hi (by decide)
  ·rw [aEd]; exact nK (Nat.le_refl _) hi (by decide)
  ·rw [aBZ]; exact nK (by omega) hi (by decide)
  ·rw [lC]; exact nK (Nat.le_refl _) hi (by decide)
 | succ n ih =>
  intro i hi
  have ihE:∀ j,j≤l.length→Pz l j (2 * j) (dZ l n j):=fun j h=>(ih j h).1
  have ihA:∀ out j,j≤l.length→∀ _lo:Nat,Pq l j out 0 (vJ l n out j):=fun out j h _=>(ih j h).2.1 out
  have ihC:∀ j,j≤l.length→Pz l j (2 * j) (aLB l n j):=fun j h=>(ih j h).2.2.1
  have ihS:∀ j,j≤l.length→Pz l j (2 * j) (aBo l n j):=fun j h=>(ih j h).2.2.2.1
  have ihSL:∀ j,j≤l.length→∀ i0 lo a,i0<j→a.w+1+lo≤2 * j→Pz l i0 lo (aAX l n a j):=fun j h=>(ih j h).2.2.2.2.1
  have ihT:∀ j,j≤l.length→Pz l j (2 * j) (qN l n j):=fun j h=>(ih j h).2.2.2.2.2.1
  have ihTL:∀ j,j≤l.length→∀ i0 lo a,i0<j→a.w+1+lo≤2 * j→Pz l i0 lo (tH l n a j):=fun j h=>(ih j h).2.2.2.2.2.2.1
  have ihP:∀ j,j≤l.length→Pz l j (2 * j) (aEd l n j):=fun j h=>(ih j h).2.2.2.2.2.2.2.1
  have ihPL:∀ j,j≤l.length→∀ i0 lo a,i0<j→a.w+1+lo≤2 * j→Pz l i0 lo (aBZ l n a j):=fun j h=>(ih j h).2.2.2.2.2.2.2.2.1
  have ihO:∀ j,j≤l.length→Pz l j (2 * j) (lC l n j):=fun j h=>(ih j h).2.2.2.2.2.2.2.2.2
  refine ⟨?_,fun out=>?_,?_,?_,fun i0 lo a ha hw=>?_,?_,fun i0 lo a ha hw=>?_,?_,fun i0 lo a ha hw=>?_,?_⟩
  ·rw [dZ]
   by_cases k_fn:aU l (i:Int) [102,110]=true
   ·rw [if_pos k_fn]
    have hin:=aN k_fn
    have g1b:=bX l [[40]] (i+1) (by omega)
    generalize ks l [[40]] (i+1)=g1 at *
    obtain ⟨g11,g12⟩:=g1b
    refine aX (by omega) g12 fun h1=>?_
    have g2b:=iJ (l:=l) (i:=g1.2.1) (by omega)
    generalize tW l (g1.2.1)=g2 at *
    obtain ⟨g21,g22⟩:=g2b
    refine aX (by omega) g22 fun h2=>?_
    have g3b:=bX l [[58]] (g2.2.1) (by omega)
    generalize ks l [[58]] (g2.2.1)=g3 at *
    obtain ⟨g31,g32⟩:=g3b
    refine aX (by omega) g32 fun h3=>?_
    have g4b:=zT hl (i:=g3.2.1) (by omega)
    generalize tyR l (g3.2.1)=g4 at *
    obtain ⟨g41,g42,g43⟩:=g4b
    refine aX (by omega) g42 fun h4=>?_
    have g43:=g43 h4
    have g5b:=bX l [[41],[61,62]] (g4.2.1) (by omega)
    generalize ks l [[41],[61,62]] (g4.2.1)=g5 at *
    obtain ⟨g51,g52⟩:=g5b
    refine aX (by omega) g52 fun h5=>?_
    have g6b:=ihE (g5.2.1) (by omega)
    generalize dZ l n (g5.2.1)=g6 at *
    obtain ⟨g61,g62,g63⟩:=g6b
    refine aX (by omega) g62 fun h6=>?_
    have g63:=g63 h6
    exact ⟨by simp only; omega,by simp only; omega,fun _=>⟨by simp only; omega,by simp only [aH,aC,aI]; omega⟩⟩
   rw [if_neg k_fn]
   by_cases k_let:aU l (i:Int) [108,101,116]=true
   ·rw [if_pos k_let]
    have hin:=aN k_let
    have g1b:=iJ (l:=l) (i:=i+1) (by omega)
    generalize tW l (i+1)=g1 at *
    obtain ⟨g11,g12⟩:=g1b
    refine aX (by omega) g12 fun h1=>?_
    have g2b:=bX l [[61]] (g1.2.1) (by omega)
    generalize ks l [[61]] (g1.2.1)=g2 at *
    obtain ⟨g21,g22⟩:=g2b
    refine aX (by omega) g22 fun h2=>?_
    have g3b:=ihE (g2.2.1) (by omega)
    generalize dZ l n (g2.2.1)=g3 at *
    obtain ⟨g31,g32,g33⟩:=g3b
    refine aX (by omega) g32 fun h3=>?_
    have g33:=g33 h3
    have g4b:=bX l [[105,110]] (g3.2.1) (by omega)
    generalize ks l [[105,110]] (g3.2.1)=g4 at *
    obtain ⟨g41,g42⟩:=g4b
    refine aX (by omega) g42 fun h4=>?_
    have g5b:=ihE (g4.2.1) (by omega)
    generalize dZ l n (g4.2.1)=g5 at *
    obtain ⟨g51,g52,g53⟩:=g5b
    refine aX (by omega) g52 fun h5=>?_
    have g53:=g53 h5
    have g6b:=bX l [[101,110,100]] (g5.2.1) (by omega)
    generalize ks l [[101,110,100]] (g5.2.1)=g6 at *
    obtain ⟨g61,g62⟩:=g6b
    refine aX (by omega) g62 fun h6=>?_
    exact ⟨by simp only; omega,by simp only; omega,fun _=>⟨by simp only; omega,by simp only [aH,aC,aI]; omega⟩⟩
   rw [if_neg k_let]
   by_cases k_if:aU l (i:Int) [105,102]=true
   ·rw [if_pos k_if]
    have hin:=aN k_if
    have g1b:=ihE (i+1) (by omega)
    generalize dZ l n (i+1)=g1 at *
    obtain ⟨g11,g12,g13⟩:=g1b
    refine aX (by omega) g12 fun h1=>?_
    have g13:=g13 h1
    have g2b:=bX l [[116,104,101,110]] (g1.2.1) (by omega)
    generalize ks l [[116,104,101,110]] (g1.2.1)=g2 at *
    obtain ⟨g21,g22⟩:=g2b
    refine aX (by omega) g22 fun h2=>?_
    have g3b:=ihE (g2.2.1) (by omega)
    generalize dZ l n (g2.2.1)=g3 at *
    obtain ⟨g31,g32,g33⟩:=g3b
    refine aX (by omega) g32 fun h3=>?_
    have g33:=g33 h3
    have g4b:=bX l [[101,108,115,101]] (g3.2.1) (by omega)
    generalize ks l [[101,108,115,101]] (g3.2.1)=g4 at *
    obtain ⟨g41,g42⟩:=g4b
    refine aX (by omega) g42 fun h4=>?_
    have g5b:=ihE (g4.2.1) (by omega)
    generalize dZ l n (g4.2.1)=g5 at *
    obtain ⟨g51,g52,g53⟩:=g5b
    refine aX (by omega) g52 fun h5=>?_
    have g53:=g53 h5
    exact ⟨by simp only; omega,by simp only; omega,fun _=>⟨by simp only; omega,by simp only [aH,aC,aI]; omega⟩⟩
   rw [if_neg k_if]
   by_cases k_case:aU l (i:Int) [99,97,115,101]=true
   ·rw [if_pos k_case]
    have hin:=aN k_case
    have g1b:=ihE (i+1) (by omega)
    generalize dZ l n (i+1)=g1 at *
    obtain ⟨g11,g12,g13⟩:=g1b
    refine aX (by omega) g12 fun h1=>?_
    have g13:=g13 h1
    have g2b:=bX l [[111,102]] (g1.2.1) (by omega)
    generalize ks l [[111,102]] (g1.2.1)=g2 at *
    obtain ⟨g21,g22⟩:=g2b
    refine aX (by omega) g22 fun h2=>?_
    have g3b:=ihA [] (g2.2.1) (by omega) 0
    generalize vJ l n [] (g2.2.1)=g3 at *
    obtain ⟨g31,g32,g33⟩:=g3b
    refine aX (by omega) g32 fun h3=>?_
    have g33:=g33 h3
    rw [aI] at g33
    exact ⟨by simp only; omega,by simp only; omega,fun _=>⟨by simp only; omega,by simp only [aH,aC]; omega⟩⟩
   rw [if_neg k_case]
   by_cases k_fold:aU l (i:Int) [102,111,108,100]=true
   ·rw [if_pos k_fold]
    have hin:=aN k_fold
    have g1b:=ihE (i+1) (by omega)
    generalize dZ l n (i+1)=g1 at *
    obtain ⟨g11,g12,g13⟩:=g1b
    refine aX (by omega) g12 fun h1=>?_
    have g13:=g13 h1
    have g2b:=bX l [[116,111]] (g1.2.1) (by omega)
    generalize ks l [[116,111]] (g1.2.1)=g2 at *
    obtain ⟨g21,g22⟩:=g2b
    refine aX (by omega) g22 fun h2=>?_
    have g3b:=zT hl (i:=g2.2.1) (by omega)
    generalize tyR l (g2.2.1)=g3 at *
    obtain ⟨g31,g32,g33⟩:=g3b
    refine aX (by omega) g32 fun h3=>?_
    have g33:=g33 h3
    have g4b:=bX l [[111,102]] (g3.2.1) (by omega)
    generalize ks l [[111,102]] (g3.2.1)=g4 at *
    obtain ⟨g41,g42⟩:=g4b
    refine aX (by omega) g42 fun h4=>?_
    have g5b:=ihA [] (g4.2.1) (by omega) 0
    generalize vJ l n [] (g4.2.1)=g5 at *
    obtain ⟨g51,g52,g53⟩:=g5b
    refine aX (by omega) g52 fun h5=>?_
    have g53:=g53 h5
    rw [aI] at g53
    exact ⟨by simp only; omega,by simp only; omega,fun _=>⟨by simp only; omega,by simp only [aH,aC]; omega⟩⟩
   rw [if_neg k_fold]
   exact ihC i hi
  ·rw [vJ]
   have g1b:=iJ (l:=l) (i:=i) hi
   generalize tW l i=g1 at *
   obtain ⟨g11,g12⟩:=g1b
   refine aTk (by omega) g12 fun h1=>?_
   have g2b:=iJ (l:=l) (i:=g1.2.1) (by omega)
   generalize tW l g1.2.1=g2 at *
   obtain ⟨g21,g22⟩:=g2b
   refine aTk (by omega) g22 fun h2=>?_
   have g3b:=bX l [[61,62]] g2.2.1 (by omega)
   generalize ks l [[61,62]] g2.2.1=g3 at *
   obtain ⟨g31,g32⟩:=g3b
   refine aTk (by omega) g32 fun h3=>?_
   have g4b:=ihE g3.2.1 (by omega)
   generalize dZ l n g3.2.1=g4 at *
   obtain ⟨g41,g42,g43⟩:=g4b
   refine aTk (by omega) g42 fun h4=>?_
   have g43:=g43 h4
   have hwo:wL (out++[.node 34 0 g1.1 g2.1 [g4.1]])=wL out+1+g4.1.w:=by rw [aHo,aC,aI,aH,aC,aI]; omega
   by_cases kb:aU l (g4.2.1:Int) [124]=true
   ·rw [if_pos kb]
    have hin:=aN kb
    have g5b:=ihA (out++[.node 34 0 g1.1 g2.1 [g4.1]]) (g4.2.1+1) (by omega) 0
    generalize vJ l n (out++[.node 34 0 g1.1 g2.1 [g4.1]]) (g4.2.1+1)=g5 at *
    obtain ⟨g51,g52,g53⟩:=g5b
    refine ⟨by omega,g52,fun h=>?_⟩
    have:=g53 h
    omega
   ·rw [if_neg kb]
    have g5b:=bX l [[101,110,100]] g4.2.1 (by omega)
    generalize ks l [[101,110,100]] g4.2.1=g5 at *
    obtain ⟨g51,g52⟩:=g5b
    refine aTk (by omega) g52 fun h5=>?_
    exact ⟨by simp only; omega,by simp only; omega,fun _=>⟨by simp only; omega,by simp only [hwo]; omega⟩⟩
  ·rw [aLB]
   have g1b:=ihS i hi
   generalize aBo l n i=g1 at *
   obtain ⟨g11,g12,g13⟩:=g1b
   refine aX (by omega) g12 fun h1=>?_
   have g13:=g13 h1
   by_cases k4:aU l (g1.2.1:Int) [61]=true
   ·rw [if_pos k4]
    have hin:=aN k4
    have g2b:=ihS (g1.2.1+1) (by omega)
    generalize aBo l n (g1.2.1+1)=g2 at *
    obtain ⟨g21,g22,g23⟩:=g2b
    refine aX (by omega) g22 fun h2=>?_
    have g23:=g23 h2
    exact ⟨by simp only; omega,by simp only; omega,fun _=>⟨by simp only; omega,by simp only [opN,aH,aC,aI]; omega⟩⟩
   rw [if_neg k4]
   by_cases k5:aU l (g1.2.1:Int) [60]=true
   ·rw [if_pos k5]
    have hin:=aN k5
    have g2b:=ihS (g1.2.1+1) (by omega)
    generalize aBo l n (g1.2.1+1)=g2 at *
    obtain ⟨g21,g22,g23⟩:=g2b
    refine aX (by omega) g22 fun h2=>?_
    have g23:=g23 h2
    exact ⟨by simp only; omega,by simp only; omega,fun _=>⟨by simp only; omega,by simp only [opN,aH,aC,aI]; omega⟩⟩
   rw [if_neg k5]
   exact ⟨by simp only; omega,by simp only; omega,fun _=>⟨by simp only; omega,by simp only; omega⟩⟩
  ·rw [aBo]
   have g1b:=ihT i hi
   generalize qN l n i=g1 at *
   obtain ⟨g11,g12,g13⟩:=g1b
   refine aX (by omega) g12 fun h1=>?_
   have g13:=g13 h1
   exact ihSL g1.2.1 g12 i (2 * i) g1.1 (by omega) (by omega)
  ·rw [aAX]
   by_cases k0:aU l (i:Int) [43]=true
   ·rw [if_pos k0]
    have hin:=aN k0
    have g1b:=ihT (i+1) (by omega)
    generalize qN l n (i+1)=g1 at *
    obtain ⟨g11,g12,g13⟩:=g1b
    refine aX (by omega) g12 fun h1=>?_
    have g13:=g13 h1
    exact ihSL g1.2.1 g12 i0 lo _ (by omega) (by simp only [opN,aH,aC,aI]; omega)
   rw [if_neg k0]
   by_cases k1:aU l (i:Int) [45]=true
   ·rw [if_pos k1]
    have hin:=aN k1
    have g1b:=ihT (i+1) (by omega)
    generalize qN l n (i+1)=g1 at *
    obtain ⟨g11,g12,g13⟩:=g1b
    refine aX (by omega) g12 fun h1=>?_
    have g13:=g13 h1
    exact ihSL g1.2.1 g12 i0 lo _ (by omega) (by simp only [opN,aH,aC,aI]; omega)
   rw [if_neg k1]
   exact ⟨by simp only; omega,hi,fun _=>⟨by simp only; omega,hw⟩⟩
  ·rw [qN]
   have g1b:=ihP i hi
   generalize aEd l n i=g1 at *
   obtain ⟨g11,g12,g13⟩:=g1b
   refine aX (by omega) g12 fun h1=>?_
   have g13:=g13 h1
   exact ihTL g1.2.1 g12 i (2 * i) g1.1 (by omega) (by omega)
  ·rw [tH]
   by_cases k0:aU l (i:Int) [42]=true
   ·rw [if_pos k0]
    have hin:=aN k0
    have g1b:=ihP (i+1) (by omega)
    generalize aEd l n (i+1)=g1 at *
    obtain ⟨g11,g12,g13⟩:=g1b
    refine aX (by omega) g12 fun h1=>?_
    have g13:=g13 h1
    exact ihTL g1.2.1 g12 i0 lo _ (by omega) (by simp only [opN,aH,aC,aI]; omega)
   rw [if_neg k0]
   exact ⟨by simp only; omega,hi,fun _=>⟨by simp only; omega,hw⟩⟩
  ·rw [aEd]
   have g1b:=ihO i hi
   generalize lC l n i=g1 at *
   obtain ⟨g11,g12,g13⟩:=g1b
   refine aX (by omega) g12 fun h1=>?_
   have g13:=g13 h1
   exact ihPL g1.2.1 g12 i (2 * i) g1.1 (by omega) (by omega)
  ·rw [aBZ]
   by_cases k0:stS l i=true
   ·rw [if_pos k0]
    have hin:=aTb k0
    have g1b:=ihO (i) (by omega)
    generalize lC l n (i)=g1 at *
    obtain ⟨g11,g12,g13⟩:=g1b
    refine aX (by omega) g12 fun h1=>?_
    have g13:=g13 h1
    exact ihPL g1.2.1 g12 i0 lo _ (by omega) (by simp only [aH,aC,aI]; omega)
   rw [if_neg k0]
   exact ⟨by simp only; omega,hi,fun _=>⟨by simp only; omega,hw⟩⟩
  ·rw [lC]
   by_cases ks0:stS l i=true
   ·rw [if_pos ks0]
    have hin:=aTb ks0
    obtain ⟨k,_,_,hk⟩:=aDd (l:=l) (i:=(i:Int)) (by omega)
    rw [hk]
    simp only
    by_cases c0:k.1=2
    ·rw [if_pos c0]
     exact ⟨by simp only; omega,by simp only; omega,fun _=>⟨by simp only; omega,by simp only [aH,aI]; omega⟩⟩
    rw [if_neg c0]
    by_cases c1:k.1=1
    ·rw [if_pos c1]
     exact ⟨by simp only; omega,by simp only; omega,fun _=>⟨by simp only; omega,by simp only [aH,aI]; omega⟩⟩
    rw [if_neg c1]
    by_cases c2:k.2.1=[116,114,117,101]
    ·rw [if_pos c2]
     exact ⟨by simp only; omega,by simp only; omega,fun _=>⟨by simp only; omega,by simp only [aH,aI]; omega⟩⟩
    rw [if_neg c2]
    by_cases c3:k.2.1=[102,97,108,115,101]
    ·rw [if_pos c3]
     exact ⟨by simp only; omega,by simp only; omega,fun _=>⟨by simp only; omega,by simp only [aH,aI]; omega⟩⟩
    rw [if_neg c3]
    by_cases c4:k.2.1=[35,49]
    ·rw [if_pos c4]
     have g1b:=ihO (i+1) (by omega)
     generalize lC l n (i+1)=g1 at *
     obtain ⟨g11,g12,g13⟩:=g1b
     refine aX (by omega) g12 fun h1=>?_
     have g13:=g13 h1
     exact ⟨by simp only; omega,by simp only; omega,fun _=>⟨by simp only; omega,by simp only [aH,aC,aI]; omega⟩⟩
    rw [if_neg c4]
    by_cases c5:k.2.1=[35,50]
    ·rw [if_pos c5]
     have g1b:=ihO (i+1) (by omega)
     generalize lC l n (i+1)=g1 at *
     obtain ⟨g11,g12,g13⟩:=g1b
     refine aX (by omega) g12 fun h1=>?_
     have g13:=g13 h1
     exact ⟨by simp only; omega,by simp only; omega,fun _=>⟨by simp only; omega,by simp only [aH,aC,aI]; omega⟩⟩
    rw [if_neg c5]
    by_cases c6:aU l ((i+1:Nat):Int) [41]=true
    ·rw [if_pos c6]
     have:=aN c6
     exact ⟨by simp only; omega,by simp only; omega,fun _=>⟨by simp only; omega,by simp only [aH,aI]; omega⟩⟩
    rw [if_neg c6]
    have g1b:=ihE (i+1) (by omega)
    generalize dZ l n (i+1)=g1 at *
    obtain ⟨g11,g12,g13⟩:=g1b
    refine aX (by omega) g12 fun h1=>?_
    have g13:=g13 h1
    by_cases c7:aU l (g1.2.1:Int) [44]=true
    ·rw [if_pos c7]
     have:=aN c7
     have g2b:=ihE (g1.2.1+1) (by omega)
     generalize dZ l n (g1.2.1+1)=g2 at *
     obtain ⟨g21,g22,g23⟩:=g2b
     refine aX (by omega) g22 fun h2=>?_
     have g23:=g23 h2
     have g3b:=bX l [[41]] g2.2.1 (by omega)
     generalize ks l [[41]] g2.2.1=g3 at *
     obtain ⟨g31,g32⟩:=g3b
     refine aX (by omega) g32 fun h3=>?_
     exact ⟨by simp only; omega,by simp only; omega,fun _=>⟨by simp only; omega,by simp only [aH,aC,aI]; omega⟩⟩
    rw [if_neg c7]
    have g3b:=bX l [[41]] g1.2.1 (by omega)
    generalize ks l [[41]] g1.2.1=g3 at *
    obtain ⟨g31,g32⟩:=g3b
    refine aX (by omega) g32 fun h3=>?_
    exact ⟨by simp only; omega,by simp only; omega,fun _=>⟨by simp only; omega,by simp only; omega⟩⟩
   ·rw [if_neg ks0]; exact nK (Nat.le_refl _) hi (by decide)
end
end Go.Proofs.YtjhfgiieicloeaaGreatDoor

