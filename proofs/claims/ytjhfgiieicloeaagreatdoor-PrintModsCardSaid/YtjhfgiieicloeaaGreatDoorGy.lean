/- Joined texts: Y3a, Y3, Y5p. -/
import Derived.Test.YtjhfgiieicloeaaGreatDoorGw
import Derived.Test.YtjhfgiieicloeaaGreatDoorGp
/- The parser of expressions: keys, names, types, what it does behind an error. -/
namespace Go.Proofs.YtjhfgiieicloeaaGreatDoor
open Go Go.Am Go.Sx
theorem Hs.isT {α:Type} {Q:α→Prop} {c:Bool} {f g:Nat→Option α} (h:c=true) (k:Hs f Q):Hs (fun K=>iteS c (f K) (g K)) Q:=Hs.is (fun _=>k) (fun h'=>by rw [h] at h'; cases h')
theorem Hs.isF {α:Type} {Q:α→Prop} {c:Bool} {f g:Nat→Option α} (h:c=false) (k:Hs g Q):Hs (fun K=>iteS c (f K) (g K)) Q:=Hs.is (fun h'=>by rw [h] at h'; cases h') (fun _=>k)
theorem Hs.ev {α:Type} {Q:α→Prop} {f:Nat→Option α} {v:α} (h:Ev f v) (k:Q v):Hs f Q:=⟨v,h,k⟩
def QS {α:Type} (l:List aI) (T:α→Prop) (r:α×Nat×Int) (x:α×List aI×Int×Int):Prop:=x.2.1=l∧x.2.2.1=((r.2.1:Nat):Int)∧x.2.2.2=r.2.2∧(r.2.2=0→x.1=r.1)∧T x.1
abbrev TT:Tr→Prop:=fun _=>True
theorem Hs.par {α β:Type} {l:List aI} {S:α→Prop} {T:β→Prop} {f:Nat→Option (α×List aI×Int×Int)} {g:α×List aI×Int×Int→Nat→Option (β×List aI×Int×Int)} {r:α×Nat×Int} {d:β} {h:α→Nat→β×Nat×Int}
  (hf:Hs f (QS l S r)) (ok:r.2.2=0→S r.1→Hs (g (r.1,l,((r.2.1:Nat):Int),0)) (QS l T (h r.1 r.2.1))) (no:∀ a,S a→r.2.2≠0→Hs (g (a,l,((r.2.1:Nat):Int),r.2.2)) (QS l T (d,r.2.1,r.2.2))):Hs (fun K=>(f K).bind fun x=>g x K) (QS l T (bnd d r h)):=by
 obtain ⟨⟨a,l',i',e'⟩,h1,h2,h3,h4,h5,h6⟩:=hf
 simp only at h2 h3 h4 h5 h6
 subst h2 h3 h4
 unfold bnd
 by_cases he:r.2.2=0
 ·rw [if_pos he]
  have e:=h5 he
  subst e
  rw [he] at h1
  exact Hs.evb h1 (ok he h6)
 ·rw [if_neg he]
  exact Hs.evb h1 (no a h6 he)
theorem Hs.parU {β:Type} {l:List aI} {T:β→Prop} {f:Nat→Option (List aI×Int×Int)} {g:List aI×Int×Int→Nat→Option (β×List aI×Int×Int)} {r:Unit×Nat×Int} {d:β} {h:Unit→Nat→β×Nat×Int}
  (hf:Ev f (l,((r.2.1:Nat):Int),r.2.2)) (ok:r.2.2=0→Hs (g (l,((r.2.1:Nat):Int),0)) (QS l T (h r.1 r.2.1))) (no:r.2.2≠0→Hs (g (l,((r.2.1:Nat):Int),r.2.2)) (QS l T (d,r.2.1,r.2.2))):Hs (fun K=>(f K).bind fun x=>g x K) (QS l T (bnd d r h)):=by
 unfold bnd
 by_cases he:r.2.2=0
 ·rw [if_pos he]
  rw [he] at hf
  exact Hs.evb hf (ok he)
 ·rw [if_neg he]
  exact Hs.evb hf (no he)
theorem jT (c:Int) (s:List UInt8) (ks:List Tr):Ev (fun K=>jX K c s ks) (.node c 0 s [] ks):=⟨0,fun _ _=>rfl⟩
theorem opX (c:Int) (a b:Tr):Ev (fun K=>aBJ K c a b) (opN c a b):=⟨0,fun _ _=>rfl⟩
/-! ### behind an error -/
section
variable (l:List aI) (i e:Int) (he:e≠0)
include he
theorem mO (t:List UInt8):Ev (fun K=>bG K l i e t) (false,l,i,e) :=
 Ev.congr (f:=fun K=>_) (Ev.nT he Ev.pure) (fun k=>by rw [bG])
theorem aQy (c:Int):Ev (fun K=>eJ K l i e c) (l,i,e) :=
 Ev.congr (f:=fun K=>_) (Ev.dF he Ev.pure) (fun k=>by rw [eJ])
theorem aTX (t:List (List UInt8)) (ht:t.length≤1000):∀ (m j:Nat),t.length=j+m→Ev (fun K=>cE K t (j:Int) l i e) (l,i,e):=by
 intro m
 induction m with
 | zero =>
  intro j hj
  exact Ev.step (fun k=>by rw [cE]) (Ev.dF (by omega) Ev.pure)
 | succ m ih =>
  intro j hj
  refine Ev.step (fun k=>by rw [cE]) ?_
  refine Ev.dT (by omega) ?_
  refine Ev.opt (dX (by omega)) ?_
  refine Ev.bind (mO l i e he _) ?_
  refine Ev.isT rfl ?_
  refine Ev.bind (aQy l i e he _) ?_
  rw [cX (by omega)]
  exact ih (j+1) (by omega)
theorem eT (t:List (List UInt8)) (ht:t.length≤1000):Ev (fun K=>aY K l i e t) (l,i,e):=by
 refine Ev.congr (f:=fun K=>_) ?_ (fun k=>by rw [aY])
 exact aTX l i e he t ht t.length 0 (by omega)
theorem aWa:Ev (fun K=>eX K l i e) ([],l,i,e):=by
 refine Ev.congr (f:=fun K=>_) ?_ (fun k=>by rw [eX])
 refine Ev.bind (aDd l i) ?_
 refine Ev.nT he ?_
 exact Ev.bind (aQy l i e he 6) Ev.pure
theorem aHP:Ev (fun K=>iO K l i e) (.nil,l,i,e) :=
 Ev.congr (f:=fun K=>_) (Ev.nT he Ev.pure) (fun k=>by rw [iO])
theorem aRB:Ev (fun K=>fX K l i e) (false,l,i,e) :=
 Ev.congr (f:=fun K=>_) (Ev.nT he Ev.pure) (fun k=>by rw [fX])
theorem bB1:Ev (fun K=>bY K l i e) (.nil,l,i,e):=by
 refine Ev.step (fun k=>by rw [bY]) ?_
 refine Ev.bind (aRB l i e he) ?_
 refine Ev.isT rfl ?_
 exact Ev.bind (aQy l i e he 6) Ev.pure
theorem aQM (a:Tr):Ev (fun K=>dA K a l i e) (a,l,i,e):=by
 refine Ev.step (fun k=>by rw [dA]) ?_
 refine Ev.bind (aRB l i e he) ?_
 exact Ev.isF rfl Ev.pure
theorem bDK:Ev (fun K=>dV K l i e) (.nil,l,i,e):=by
 refine Ev.step (fun k=>by rw [dV]) ?_
 refine Ev.bind (bB1 l i e he) ?_
 exact aQM l i e he _
theorem aSG (a:Tr):Ev (fun K=>bA K [42] [3] a l i e) (a,l,i,e):=by
 refine Ev.step (fun k=>by rw [bA]) ?_
 refine Ev.step (fun k=>by rw [dI]) ?_
 refine Ev.dT (by decide) ?_
 refine Ev.opt (a:=[42]) rfl ?_
 refine Ev.bind (mO l i e he _) ?_
 refine Ev.isT rfl ?_
 refine Ev.step (fun k=>by rw [dI]) ?_
 refine Ev.dF (by decide) ?_
 exact Ev.dT (by decide) Ev.pure
theorem bB7:Ev (fun K=>dL K l i e) (.nil,l,i,e):=by
 refine Ev.step (fun k=>by rw [dL]) ?_
 refine Ev.bind (a:=(.nil,l,i,e)) ?_ Ev.pure
 refine Ev.step (fun k=>by rw [iD]) ?_
 refine Ev.bind (bDK l i e he) ?_
 exact aSG l i e he _
theorem aOI (a:Tr):Ev (fun K=>bH K [43,45] [1,2] a l i e) (a,l,i,e):=by
 refine Ev.step (fun k=>by rw [bH]) ?_
 refine Ev.step (fun k=>by rw [cK]) ?_
 refine Ev.dT (by decide) ?_
 refine Ev.opt (a:=[43]) rfl ?_
 refine Ev.bind (mO l i e he _) ?_
 refine Ev.isT rfl ?_
 refine Ev.step (fun k=>by rw [cK]) ?_
 refine Ev.dT (by decide) ?_
 refine Ev.opt (a:=[45]) rfl ?_
 refine Ev.bind (mO l i e he _) ?_
 refine Ev.isT rfl ?_
 refine Ev.step (fun k=>by rw [cK]) ?_
 refine Ev.dF (by decide) ?_
 exact Ev.dT (by decide) Ev.pure
theorem aZr:Ev (fun K=>eH K l i e) (.nil,l,i,e):=by
 refine Ev.step (fun k=>by rw [eH]) ?_
 refine Ev.bind (a:=(.nil,l,i,e)) ?_ Ev.pure
 refine Ev.step (fun k=>by rw [kA]) ?_
 refine Ev.bind (bB7 l i e he) ?_
 exact aOI l i e he _
theorem bCT:Ev (fun K=>fS K l i e) (.nil,l,i,e):=by
 refine Ev.step (fun k=>by rw [fS]) ?_
 refine Ev.bind (aZr l i e he) ?_
 refine Ev.bind (mO l i e he _) ?_
 refine Ev.isF rfl ?_
 refine Ev.bind (mO l i e he _) ?_
 exact Ev.isF rfl Ev.pure
theorem bAv (out:List Tr):Ev (fun K=>dU K out l i e) (out,l,i,e):=by
 refine Ev.step (fun k=>by rw [dU]) ?_
 refine Ev.dF he ?_
 exact Ev.bind (eT l i e he _ (by decide)) Ev.pure
theorem aEw:Ev (fun K=>gY K l i e) ([],l,i,e) :=
 Ev.step (fun k=>by rw [gY]) (bAv l i e he _)
theorem kS:Ev (fun K=>aW K l i e) (.nil,l,i,e):=by
 refine Ev.step (fun k=>by rw [aW]) ?_
 refine Ev.bind (mO l i e he _) ?_
 refine Ev.isF rfl ?_
 refine Ev.bind (mO l i e he _) ?_
 refine Ev.isF rfl ?_
 refine Ev.bind (mO l i e he _) ?_
 refine Ev.isF rfl ?_
 refine Ev.bind (mO l i e he _) ?_
 refine Ev.isF rfl ?_
 refine Ev.bind (mO l i e he _) ?_
 refine Ev.isF rfl ?_
 exact Ev.bind (bCT l i e he) Ev.pure
end
/-! ### steps behind an error -/
section
variable {α:Type} {Q:α→Prop} {l:List aI} {i e:Int} (he:e≠0)
include he
theorem dT {g:Tr×List aI×Int×Int→Nat→Option α} (k:Hs (g (.nil,l,i,e)) Q):Hs (fun K=>(iO K l i e).bind fun x=>g x K) Q:=Hs.evb (aHP l i e he) k
end
section
variable {l:List aI} {i:Nat} {e:Int} (he:e≠0)
include he
theorem d1 {a:Tr}:Hs (fun K=>bH K [43,45] [1,2] a l (i:Int) e) (QS l TT (.nil,i,e)):=Hs.ev (aOI l _ _ he _) ⟨rfl,rfl,rfl,fun h=>absurd h he,trivial⟩
theorem d2 {a:Tr}:Hs (fun K=>bA K [42] [3] a l (i:Int) e) (QS l TT (.nil,i,e)):=Hs.ev (aSG l _ _ he _) ⟨rfl,rfl,rfl,fun h=>absurd h he,trivial⟩
end
/-! ### no error yet -/
theorem aBE {l:List aI} {i:Int} {t:List UInt8} (h:bE l i t=false):Ev (fun K=>bG K l i 0 t) (false,l,i,0):=by
 refine Ev.congr (f:=fun K=>_) ?_ (fun k=>by rw [bG])
 refine Ev.nF rfl ?_
 refine Ev.bind (aCS l i t) ?_
 exact Ev.isT (by rw [h]; rfl) Ev.pure
theorem aXa (l:List aI) (i c:Int):Ev (fun K=>eJ K l i 0 c) (l,i,c) :=
 Ev.congr (f:=fun K=>_) (Ev.dT rfl Ev.pure) (fun k=>by rw [eJ])
section
variable {l:List aI} (hl:l.length≤20000)
include hl
theorem aB4 {i:Nat} {t:List UInt8} (h:bE l (i:Int) t=true):Ev (fun K=>bG K l (i:Int) 0 t) (true,l,((i+1:Nat):Int),0):=by
 have hin:=aX h
 refine Ev.congr (f:=fun K=>_) ?_ (fun k=>by rw [bG])
 refine Ev.nF rfl ?_
 refine Ev.bind (aCS l i t) ?_
 exact Ev.isF (by rw [h]; rfl) (Ev.pure' (by rw [wr1 (by omega)]))
theorem bHr (t:List (List UInt8)) (ht:t.length≤1000):∀ (m j i:Nat),t.length=j+m→Ev (fun K=>cE K t (j:Int) l (i:Int) 0) (l,(((ks l (t.drop j) i).2.1:Nat):Int),(ks l (t.drop j) i).2.2):=by
 intro m
 induction m with
 | zero =>
  intro j i hj
  rw [List.drop_of_length_le (by omega),ks]
  exact Ev.step (fun k=>by rw [cE]) (Ev.dF (by omega) Ev.pure)
 | succ m ih =>
  intro j i hj
  have hlt:j<t.length:=by omega
  rw [iP hlt,ks]
  refine Ev.step (fun k=>by rw [cE]) ?_
  refine Ev.dT (by omega) ?_
  refine Ev.opt (dX hlt) ?_
  by_cases hk:bE l (i:Int) t[j]=true
  ·rw [if_pos hk]
   refine Ev.bind (aB4 hl hk) ?_
   refine Ev.isF rfl ?_
   rw [cX (by omega)]
   exact ih (j+1) (i+1) (by omega)
  ·rw [if_neg hk]
   refine Ev.bind (aBE (by simpa using hk)) ?_
   refine Ev.isT rfl ?_
   refine Ev.bind (aXa l i 6) ?_
   rw [cX (by omega)]
   exact aTX l i 6 (by decide) t ht m (j+1) (by omega)
theorem aFW (t:List (List UInt8)) (ht:t.length≤1000) (i:Nat):Ev (fun K=>aY K l (i:Int) 0 t) (l,(((ks l t i).2.1:Nat):Int),(ks l t i).2.2):=by
 refine Ev.congr (f:=fun K=>_) ?_ (fun k=>by rw [aY])
 exact bHr hl t ht t.length 0 i (by omega)
theorem bAY (i:Nat):Hs (fun K=>eX K l (i:Int) 0) (QS l (fun _=>True) (nmR l i)):=by
 refine Hs.congr (f:=fun K=>_) ?_ (fun k=>by rw [eX])
 have p:=aDd l i
 unfold nmR
 have hin:=aLW (l:=l) (i:=(i:Int))
 generalize pX l (i:Int)=N at *
 obtain ⟨s,b⟩:=N
 refine Hs.evb p ?_
 refine Hs.n (fun h=>absurd rfl h) (fun _=>?_)
 cases b with
 | false =>
  refine Hs.isT rfl ?_
  refine Hs.evb (aXa l i 6) ?_
  exact Hs.pure ⟨rfl,rfl,rfl,fun _=>rfl,trivial⟩
 | true =>
  have hin:=hin rfl
  refine Hs.isF rfl ?_
  exact Hs.pure ⟨rfl,by simp only [if_true]; rw [wr1 (by omega)],rfl,fun _=>rfl,trivial⟩
theorem aXT {i:Nat} (hi:i≤l.length):Ev (fun K=>aCu K l (i:Int)) (if (tyR l i).2.2=0 then (tyR l i).1 else .nil,(((tyR l i).2.1:Nat):Int),(tyR l i).2.2):=by
 obtain ⟨t',h1,h5,h4,h3⟩:=(aXl hl (3 * l.length+3) i hi).1 (by omega)
 unfold tyR
 generalize aER l (3 * l.length+3) i=g at *
 refine Ev.congr (f:=fun K=>_) ?_ (fun k=>by rw [aCu])
 refine Ev.bind (aYu hl (by omega)) ?_
 refine Ev.bind h1 ?_
 refine Ev.n (fun he=>Ev.pure' (by rw [if_neg he])) (fun he=>Ev.pure' (by rw [if_pos he,he,(h5 he).1]))
theorem bJn {i:Nat} (hi:i≤l.length):Hs (fun K=>iO K l (i:Int) 0) (QS l TT (tyR l i)):=by
 refine Hs.congr (f:=fun K=>_) ?_ (fun k=>by rw [iO])
 refine Hs.n (fun h=>absurd rfl h) (fun _=>?_)
 refine Hs.evb (aXT hl hi) ?_
 refine Hs.evb (aXa l _ _) ?_
 exact Hs.pure ⟨rfl,rfl,rfl,fun he=>if_pos he,trivial⟩
theorem bBB {i:Nat} (hi:i≤l.length):Ev (fun K=>fX K l (i:Int) 0) (stS l i,l,(i:Int),0):=by
 have:=hl
 refine Ev.congr (f:=fun K=>_) ?_ (fun k=>by rw [fX])
 refine Ev.nF rfl ?_
 by_cases hlt:i<l.length
 ·obtain ⟨k,_,hg,hk⟩:=aFm (l:=l) (i:=(i:Int)) (by omega)
  have hkey:∀ t,bE l (i:Int) t=(decide (k.1=3) && decide (k.2.1=t)):=fun t=>by unfold bE; rw [hk]
  have hlong:aDq l (i:Int)=if k.1=1∧lgS k.2.1=true then (k.2.1,true) else ([],false):=by unfold aDq; rw [hk]
  have hst:stS l i=if k.1=3 then decide (k.2.1=[116,114,117,101]) || (decide (k.2.1=[102,97,108,115,101]) || (decide (k.2.1=[40]) || (decide (k.2.1=[35,49]) || decide (k.2.1=[35,50]))))
   else if k.1=2 then decide (-1073741824≤k.2.2.1) && decide (k.2.2.1≤1073741824) else decide (k.1=1) && lgS k.2.1:=by unfold stS; rw [hk]
  rw [hst]
  refine Ev.dF (by omega) ?_
  have key:∀ t,Ev (fun K=>kT K l (i:Int) t) (decide (k.1=3) && decide (k.2.1=t)):=fun t=>by have:=aCS l i t; rwa [hkey] at this
  by_cases h3:k.1=3
  ·rw [if_pos h3]
   have key:∀ t,Ev (fun K=>kT K l (i:Int) t) (decide (k.2.1=t)):=fun t=>by have:=key t; rwa [decide_eq_true h3,Bool.true_and] at this
   refine Ev.bind (key _) ?_
   refine Ev.d (fun e=>Ev.pure' (by rw [decide_eq_true e,Bool.true_or])) (fun e=>?_)
   rw [decide_eq_false e,Bool.false_or]
   refine Ev.bind (key _) ?_
   refine Ev.d (fun e=>Ev.pure' (by rw [decide_eq_true e,Bool.true_or])) (fun e=>?_)
   rw [decide_eq_false e,Bool.false_or]
   refine Ev.bind (key _) ?_
   refine Ev.d (fun e=>Ev.pure' (by rw [decide_eq_true e,Bool.true_or])) (fun e=>?_)
   rw [decide_eq_false e,Bool.false_or]
   refine Ev.bind (key _) ?_
   refine Ev.d (fun e=>Ev.pure' (by rw [decide_eq_true e,Bool.true_or])) (fun e=>?_)
   rw [decide_eq_false e,Bool.false_or]
   refine Ev.bind (key _) ?_
   refine Ev.d (fun e=>Ev.pure' (by rw [decide_eq_true e])) (fun e=>?_)
   rw [decide_eq_false e]
   refine Ev.bind (aKU l i) ?_
   rw [hlong,if_neg (by omega)]
   refine Ev.isF rfl ?_
   refine Ev.opt hg ?_
   refine Ev.bind (a:=false) ?_ Ev.pure
   refine Ev.congr (f:=fun K=>_) ?_ (fun k=>by rw [xR])
   exact Ev.dF (by omega) Ev.pure
  ·rw [if_neg h3]
   have key:∀ t,Ev (fun K=>kT K l (i:Int) t) false:=fun t=>by have:=key t; rwa [decide_eq_false h3,Bool.false_and] at this
   refine Ev.bind (key _) (Ev.isF rfl ?_)
   refine Ev.bind (key _) (Ev.isF rfl ?_)
   refine Ev.bind (key _) (Ev.isF rfl ?_)
   refine Ev.bind (key _) (Ev.isF rfl ?_)
   refine Ev.bind (key _) (Ev.isF rfl ?_)
   refine Ev.bind (aKU l i) ?_
   rw [hlong]
   by_cases h2:k.1=2
   ·rw [if_pos h2,if_neg (by omega)]
    refine Ev.isF rfl ?_
    refine Ev.opt hg ?_
    refine Ev.bind (a:=decide (-1073741824≤k.2.2.1) && decide (k.2.2.1≤1073741824)) ?_ Ev.pure
    refine Ev.congr (f:=fun K=>_) ?_ (fun k=>by rw [xR])
    refine Ev.dT h2 ?_
    refine Ev.d (fun e=>Ev.pure' (by rw [decide_eq_true e,Bool.true_and])) (fun e=>Ev.pure' (by rw [decide_eq_false e,Bool.false_and]))
   ·rw [if_neg h2]
    by_cases h1:k.1=1∧lgS k.2.1=true
    ·rw [if_pos h1]
     refine Ev.isT rfl (Ev.pure' ?_)
     rw [decide_eq_true h1.1,h1.2]; rfl
    ·rw [if_neg h1]
     refine Ev.isF rfl ?_
     refine Ev.opt hg ?_
     refine Ev.bind (a:=false) ?_ (Ev.pure' ?_)
     ·refine Ev.congr (f:=fun K=>_) ?_ (fun k=>by rw [xR])
      exact Ev.dF h2 Ev.pure
     ·by_cases h0:k.1=1
      ·have:lgS k.2.1=false:=by
        cases hx:lgS k.2.1 with
        | false=>rfl
        | true=>exact absurd ⟨h0,hx⟩ h1
       rw [this,Bool.and_false]
      ·rw [decide_eq_false h0,Bool.false_and]
 ·refine Ev.dT (by omega) (Ev.pure' ?_)
  have:stS l i=false:=by
   cases hx:stS l i with
   | false=>rfl
   | true=>exact absurd (aZi hx) hlt
  rw [this]
end
end Go.Proofs.YtjhfgiieicloeaaGreatDoor

/- The program's parser of expressions comes to its plain functions. Printed by gen7/y3.py. -/
namespace Go.Proofs.YtjhfgiieicloeaaGreatDoor
open Go Go.Am Go.Sx
def IX (l:List aI) (n c:Nat) (f:Nat→List aI→Int→Int→Option (Tr×List aI×Int×Int)) (g:Nat→RT):Prop:=∀ j,j≤l.length→8 * (l.length - j)+c≤n→Hs (fun K=>f K l (j:Int) 0) (QS l TT (g j))
def IL (l:List aI) (n:Nat) (f:Nat→Tr→List aI→Int→Int→Option (Tr×List aI×Int×Int)) (g:Tr→Nat→RT):Prop:=∀ j,j≤l.length→8 * (l.length - j)+2≤n→∀ a,Hs (fun K=>f K a l (j:Int) 0) (QS l TT (g a j))
def IA (l:List aI) (n:Nat):Prop:=∀ j,j≤l.length→8 * (l.length - j)+1≤n→∀ out,out.length≤j→Hs (fun K=>dU K out l (j:Int) 0) (QS l (fun a=>a.length≤40000) (aCc l n out j))
theorem aX6 {l:List aI} {i:Int} {Q:List Tr×List aI×Int×Int→Prop} (h:Hs (fun K=>dU K [] l i 0) Q):Hs (fun K=>gY K l i 0) Q :=
 Hs.step (fun k=>by rw [gY]) h
theorem rN {l:List aI} {i:Nat} (h:(nmR l i).2.2=0):(nmR l i).2.1=i+1:=by
 unfold nmR at h ⊢
 by_cases hk:(pX l (i:Int)).2=true
 ·rw [if_pos hk]
 ·rw [if_neg hk] at h; exact absurd (show (6:Int)=0 from h) (by decide)
section
variable {l:List aI} (hl:l.length≤20000)
include hl
theorem nM (n i:Nat) (hi:i≤l.length):Pz l i (2 * i) (fD l n i):=(bBE hl n i hi).1
theorem aT5 (n:Nat) (out:List Tr) (i:Nat) (hi:i≤l.length):Pq l i out 0 (aCc l n out i):=(bBE hl n i hi).2.1 out
theorem aQI (n i:Nat) (hi:i≤l.length):Pz l i (2 * i) (aF9 l n i):=(bBE hl n i hi).2.2.2.1
theorem aN1 (n i:Nat) (hi:i≤l.length):Pz l i (2 * i) (xU l n i):=(bBE hl n i hi).2.2.2.2.2.1
theorem aV1 (n i:Nat) (hi:i≤l.length):Pz l i (2 * i) (aJX l n i):=(bBE hl n i hi).2.2.2.2.2.2.2.1
theorem aIm (n i:Nat) (hi:i≤l.length):Pz l i (2 * i) (pA l n i):=(bBE hl n i hi).2.2.2.2.2.2.2.2.2
variable {n:Nat}
theorem bFK (ihE:IX l n 6 aW (fD l n)) (ihA:IA l n) (ihC:IX l n 5 fS (aSm l n)):IX l (n+1) 6 aW (fD l (n+1)):=by
 intro i hi hn
 rw [fD]
 refine Hs.step (fun k=>by rw [aW]) ?_
 by_cases k_fn:bE l (i:Int) [102,110]=true
 ·rw [if_pos k_fn]
  have hin:=aX k_fn
  refine Hs.evb (aB4 hl k_fn) ?_
  refine Hs.isT rfl ?_
  have b:=eN l [[40]] (i+1) (by omega)
  have p:=aFW hl [[40]] (by decide) (i+1)
  generalize ks l [[40]] (i+1)=g1 at *
  obtain ⟨g1a,g1b⟩:=b
  refine Hs.parU p (fun h1=>?_) (fun he=>?_)
  rotate_left
  ·repeat' first
    | exact Hs.pure ⟨rfl,rfl,rfl,fun h=>absurd h he,trivial⟩
    | refine Hs.evb (eT l _ _ he _ (by decide)) ?_
    | refine Hs.evb (aWa l _ _ he) ?_
    | refine Hs.evb (aHP l _ _ he) ?_
    | refine Hs.evb (kS l _ _ he) ?_
    | refine Hs.evb (jT ..) ?_
  have b:=oK (l:=l) (i:=g1.2.1) (by omega)
  have sN:=rN (l:=l) (i:=g1.2.1)
  have p:=bAY hl (g1.2.1)
  generalize nmR l (g1.2.1)=g2 at *
  obtain ⟨g2a,g2b⟩:=b
  refine Hs.par p (fun h2 _=>?_) (fun a _ he=>?_)
  rotate_left
  ·repeat' first
    | exact Hs.pure ⟨rfl,rfl,rfl,fun h=>absurd h he,trivial⟩
    | refine Hs.evb (eT l _ _ he _ (by decide)) ?_
    | refine Hs.evb (aHP l _ _ he) ?_
    | refine Hs.evb (kS l _ _ he) ?_
    | refine Hs.evb (jT ..) ?_
  have sN:=sN h2
  have b:=eN l [[58]] (g2.2.1) (by omega)
  have p:=aFW hl [[58]] (by decide) (g2.2.1)
  generalize ks l [[58]] (g2.2.1)=g3 at *
  obtain ⟨g3a,g3b⟩:=b
  refine Hs.parU p (fun h3=>?_) (fun he=>?_)
  rotate_left
  ·repeat' first
    | exact Hs.pure ⟨rfl,rfl,rfl,fun h=>absurd h he,trivial⟩
    | refine Hs.evb (eT l _ _ he _ (by decide)) ?_
    | refine Hs.evb (aHP l _ _ he) ?_
    | refine Hs.evb (kS l _ _ he) ?_
    | refine Hs.evb (jT ..) ?_
  have b:=aGP hl (i:=g3.2.1) (by omega)
  have p:=bJn hl (i:=g3.2.1) (by omega)
  generalize tyR l (g3.2.1)=g4 at *
  obtain ⟨g4a,g4b,g4c⟩:=b
  refine Hs.par p (fun h4 _=>?_) (fun a _ he=>?_)
  rotate_left
  ·repeat' first
    | exact Hs.pure ⟨rfl,rfl,rfl,fun h=>absurd h he,trivial⟩
    | refine Hs.evb (eT l _ _ he _ (by decide)) ?_
    | refine Hs.evb (kS l _ _ he) ?_
    | refine Hs.evb (jT ..) ?_
  have g4c:=g4c h4
  have b:=eN l [[41],[61,62]] (g4.2.1) (by omega)
  have p:=aFW hl [[41],[61,62]] (by decide) (g4.2.1)
  generalize ks l [[41],[61,62]] (g4.2.1)=g5 at *
  obtain ⟨g5a,g5b⟩:=b
  refine Hs.parU p (fun h5=>?_) (fun he=>?_)
  rotate_left
  ·repeat' first
    | exact Hs.pure ⟨rfl,rfl,rfl,fun h=>absurd h he,trivial⟩
    | refine Hs.evb (kS l _ _ he) ?_
    | refine Hs.evb (jT ..) ?_
  have b:=nM hl n (g5.2.1) (by omega)
  have p:=ihE (g5.2.1) (by omega) (by omega)
  generalize fD l n (g5.2.1)=g6 at *
  obtain ⟨g6a,g6b,g6c⟩:=b
  refine Hs.par p (fun h6 _=>?_) (fun a _ he=>?_)
  rotate_left
  ·repeat' first
    | exact Hs.pure ⟨rfl,rfl,rfl,fun h=>absurd h he,trivial⟩
    | refine Hs.evb (jT ..) ?_
  have g6c:=g6c h6
  exact Hs.evb (jT ..) (Hs.pure ⟨rfl,rfl,rfl,fun _=>rfl,trivial⟩)
 rw [if_neg k_fn]
 refine Hs.evb (aBE (by simpa using k_fn)) ?_
 refine Hs.isF rfl ?_
 by_cases k_let:bE l (i:Int) [108,101,116]=true
 ·rw [if_pos k_let]
  have hin:=aX k_let
  refine Hs.evb (aB4 hl k_let) ?_
  refine Hs.isT rfl ?_
  have b:=oK (l:=l) (i:=i+1) (by omega)
  have sN:=rN (l:=l) (i:=i+1)
  have p:=bAY hl (i+1)
  generalize nmR l (i+1)=g1 at *
  obtain ⟨g1a,g1b⟩:=b
  refine Hs.par p (fun h1 _=>?_) (fun a _ he=>?_)
  rotate_left
  ·repeat' first
    | exact Hs.pure ⟨rfl,rfl,rfl,fun h=>absurd h he,trivial⟩
    | refine Hs.evb (eT l _ _ he _ (by decide)) ?_
    | refine Hs.evb (kS l _ _ he) ?_
    | refine Hs.evb (jT ..) ?_
  have sN:=sN h1
  have b:=eN l [[61]] (g1.2.1) (by omega)
  have p:=aFW hl [[61]] (by decide) (g1.2.1)
  generalize ks l [[61]] (g1.2.1)=g2 at *
  obtain ⟨g2a,g2b⟩:=b
  refine Hs.parU p (fun h2=>?_) (fun he=>?_)
  rotate_left
  ·repeat' first
    | exact Hs.pure ⟨rfl,rfl,rfl,fun h=>absurd h he,trivial⟩
    | refine Hs.evb (eT l _ _ he _ (by decide)) ?_
    | refine Hs.evb (kS l _ _ he) ?_
    | refine Hs.evb (jT ..) ?_
  have b:=nM hl n (g2.2.1) (by omega)
  have p:=ihE (g2.2.1) (by omega) (by omega)
  generalize fD l n (g2.2.1)=g3 at *
  obtain ⟨g3a,g3b,g3c⟩:=b
  refine Hs.par p (fun h3 _=>?_) (fun a _ he=>?_)
  rotate_left
  ·repeat' first
    | exact Hs.pure ⟨rfl,rfl,rfl,fun h=>absurd h he,trivial⟩
    | refine Hs.evb (eT l _ _ he _ (by decide)) ?_
    | refine Hs.evb (kS l _ _ he) ?_
    | refine Hs.evb (jT ..) ?_
  have g3c:=g3c h3
  have b:=eN l [[105,110]] (g3.2.1) (by omega)
  have p:=aFW hl [[105,110]] (by decide) (g3.2.1)
  generalize ks l [[105,110]] (g3.2.1)=g4 at *
  obtain ⟨g4a,g4b⟩:=b
  refine Hs.parU p (fun h4=>?_) (fun he=>?_)
  rotate_left
  ·repeat' first
    | exact Hs.pure ⟨rfl,rfl,rfl,fun h=>absurd h he,trivial⟩
    | refine Hs.evb (eT l _ _ he _ (by decide)) ?_
    | refine Hs.evb (kS l _ _ he) ?_
    | refine Hs.evb (jT ..) ?_
  have b:=nM hl n (g4.2.1) (by omega)
  have p:=ihE (g4.2.1) (by omega) (by omega)
  generalize fD l n (g4.2.1)=g5 at *
  obtain ⟨g5a,g5b,g5c⟩:=b
  refine Hs.par p (fun h5 _=>?_) (fun a _ he=>?_)
  rotate_left
  ·repeat' first
    | exact Hs.pure ⟨rfl,rfl,rfl,fun h=>absurd h he,trivial⟩
    | refine Hs.evb (eT l _ _ he _ (by decide)) ?_
    | refine Hs.evb (jT ..) ?_
  have g5c:=g5c h5
  have b:=eN l [[101,110,100]] (g5.2.1) (by omega)
  have p:=aFW hl [[101,110,100]] (by decide) (g5.2.1)
  generalize ks l [[101,110,100]] (g5.2.1)=g6 at *
  obtain ⟨g6a,g6b⟩:=b
  refine Hs.parU p (fun h6=>?_) (fun he=>?_)
  rotate_left
  ·repeat' first
    | exact Hs.pure ⟨rfl,rfl,rfl,fun h=>absurd h he,trivial⟩
    | refine Hs.evb (jT ..) ?_
  exact Hs.evb (jT ..) (Hs.pure ⟨rfl,rfl,rfl,fun _=>rfl,trivial⟩)
 rw [if_neg k_let]
 refine Hs.evb (aBE (by simpa using k_let)) ?_
 refine Hs.isF rfl ?_
 by_cases k_if:bE l (i:Int) [105,102]=true
 ·rw [if_pos k_if]
  have hin:=aX k_if
  refine Hs.evb (aB4 hl k_if) ?_
  refine Hs.isT rfl ?_
  have b:=nM hl n (i+1) (by omega)
  have p:=ihE (i+1) (by omega) (by omega)
  generalize fD l n (i+1)=g1 at *
  obtain ⟨g1a,g1b,g1c⟩:=b
  refine Hs.par p (fun h1 _=>?_) (fun a _ he=>?_)
  rotate_left
  ·repeat' first
    | exact Hs.pure ⟨rfl,rfl,rfl,fun h=>absurd h he,trivial⟩
    | refine Hs.evb (eT l _ _ he _ (by decide)) ?_
    | refine Hs.evb (kS l _ _ he) ?_
    | refine Hs.evb (jT ..) ?_
  have g1c:=g1c h1
  have b:=eN l [[116,104,101,110]] (g1.2.1) (by omega)
  have p:=aFW hl [[116,104,101,110]] (by decide) (g1.2.1)
  generalize ks l [[116,104,101,110]] (g1.2.1)=g2 at *
  obtain ⟨g2a,g2b⟩:=b
  refine Hs.parU p (fun h2=>?_) (fun he=>?_)
  rotate_left
  ·repeat' first
    | exact Hs.pure ⟨rfl,rfl,rfl,fun h=>absurd h he,trivial⟩
    | refine Hs.evb (eT l _ _ he _ (by decide)) ?_
    | refine Hs.evb (kS l _ _ he) ?_
    | refine Hs.evb (jT ..) ?_
  have b:=nM hl n (g2.2.1) (by omega)
  have p:=ihE (g2.2.1) (by omega) (by omega)
  generalize fD l n (g2.2.1)=g3 at *
  obtain ⟨g3a,g3b,g3c⟩:=b
  refine Hs.par p (fun h3 _=>?_) (fun a _ he=>?_)
  rotate_left
  ·repeat' first
    | exact Hs.pure ⟨rfl,rfl,rfl,fun h=>absurd h he,trivial⟩
    | refine Hs.evb (eT l _ _ he _ (by decide)) ?_
    | refine Hs.evb (kS l _ _ he) ?_
    | refine Hs.evb (jT ..) ?_
  have g3c:=g3c h3
  have b:=eN l [[101,108,115,101]] (g3.2.1) (by omega)
  have p:=aFW hl [[101,108,115,101]] (by decide) (g3.2.1)
  generalize ks l [[101,108,115,101]] (g3.2.1)=g4 at *
  obtain ⟨g4a,g4b⟩:=b
  refine Hs.parU p (fun h4=>?_) (fun he=>?_)
  rotate_left
  ·repeat' first
    | exact Hs.pure ⟨rfl,rfl,rfl,fun h=>absurd h he,trivial⟩
    | refine Hs.evb (kS l _ _ he) ?_
    | refine Hs.evb (jT ..) ?_
  have b:=nM hl n (g4.2.1) (by omega)
  have p:=ihE (g4.2.1) (by omega) (by omega)
  generalize fD l n (g4.2.1)=g5 at *
  obtain ⟨g5a,g5b,g5c⟩:=b
  refine Hs.par p (fun h5 _=>?_) (fun a _ he=>?_)
  rotate_left
  ·repeat' first
    | exact Hs.pure ⟨rfl,rfl,rfl,fun h=>absurd h he,trivial⟩
    | refine Hs.evb (jT ..) ?_
  have g5c:=g5c h5
  exact Hs.evb (jT ..) (Hs.pure ⟨rfl,rfl,rfl,fun _=>rfl,trivial⟩)
 rw [if_neg k_if]
 refine Hs.evb (aBE (by simpa using k_if)) ?_
 refine Hs.isF rfl ?_
 by_cases k_case:bE l (i:Int) [99,97,115,101]=true
 ·rw [if_pos k_case]
  have hin:=aX k_case
  refine Hs.evb (aB4 hl k_case) ?_
  refine Hs.isT rfl ?_
  have b:=nM hl n (i+1) (by omega)
  have p:=ihE (i+1) (by omega) (by omega)
  generalize fD l n (i+1)=g1 at *
  obtain ⟨g1a,g1b,g1c⟩:=b
  refine Hs.par p (fun h1 _=>?_) (fun a _ he=>?_)
  rotate_left
  ·repeat' first
    | exact Hs.pure ⟨rfl,rfl,rfl,fun h=>absurd h he,trivial⟩
    | refine Hs.evb (eT l _ _ he _ (by decide)) ?_
    | refine Hs.evb (aEw l _ _ he) ?_
    | refine Hs.evb (jT ..) ?_
    | refine Hs.opt (cM (by simp; omega)) ?_
  have g1c:=g1c h1
  have b:=eN l [[111,102]] (g1.2.1) (by omega)
  have p:=aFW hl [[111,102]] (by decide) (g1.2.1)
  generalize ks l [[111,102]] (g1.2.1)=g2 at *
  obtain ⟨g2a,g2b⟩:=b
  refine Hs.parU p (fun h2=>?_) (fun he=>?_)
  rotate_left
  ·repeat' first
    | exact Hs.pure ⟨rfl,rfl,rfl,fun h=>absurd h he,trivial⟩
    | refine Hs.evb (aEw l _ _ he) ?_
    | refine Hs.evb (jT ..) ?_
    | refine Hs.opt (cM (by simp; omega)) ?_
  have b:=aT5 hl n [] (g2.2.1) (by omega)
  have p:=aX6 (ihA (g2.2.1) (by omega) (by omega) [] (by simp))
  generalize aCc l n [] (g2.2.1)=g3 at *
  obtain ⟨g3a,g3b,g3c⟩:=b
  refine Hs.par p (fun h3 hs=>?_) (fun a hs he=>?_)
  rotate_left
  ·repeat' first
    | exact Hs.pure ⟨rfl,rfl,rfl,fun h=>absurd h he,trivial⟩
    | refine Hs.evb (jT ..) ?_
    | refine Hs.opt (cM (by simp; omega)) ?_
  refine Hs.opt (cM (by simp; omega)) ?_
  exact Hs.evb (jT ..) (Hs.pure ⟨rfl,rfl,rfl,fun _=>rfl,trivial⟩)
 rw [if_neg k_case]
 refine Hs.evb (aBE (by simpa using k_case)) ?_
 refine Hs.isF rfl ?_
 by_cases k_fold:bE l (i:Int) [102,111,108,100]=true
 ·rw [if_pos k_fold]
  have hin:=aX k_fold
  refine Hs.evb (aB4 hl k_fold) ?_
  refine Hs.isT rfl ?_
  have b:=nM hl n (i+1) (by omega)
  have p:=ihE (i+1) (by omega) (by omega)
  generalize fD l n (i+1)=g1 at *
  obtain ⟨g1a,g1b,g1c⟩:=b
  refine Hs.par p (fun h1 _=>?_) (fun a _ he=>?_)
  rotate_left
  ·repeat' first
    | exact Hs.pure ⟨rfl,rfl,rfl,fun h=>absurd h he,trivial⟩
    | refine Hs.evb (eT l _ _ he _ (by decide)) ?_
    | refine Hs.evb (aHP l _ _ he) ?_
    | refine Hs.evb (aEw l _ _ he) ?_
    | refine Hs.evb (jT ..) ?_
    | refine Hs.opt (cM (by simp; omega)) ?_
  have g1c:=g1c h1
  have b:=eN l [[116,111]] (g1.2.1) (by omega)
  have p:=aFW hl [[116,111]] (by decide) (g1.2.1)
  generalize ks l [[116,111]] (g1.2.1)=g2 at *
  obtain ⟨g2a,g2b⟩:=b
  refine Hs.parU p (fun h2=>?_) (fun he=>?_)
  rotate_left
  ·repeat' first
    | exact Hs.pure ⟨rfl,rfl,rfl,fun h=>absurd h he,trivial⟩
    | refine Hs.evb (eT l _ _ he _ (by decide)) ?_
    | refine Hs.evb (aHP l _ _ he) ?_
    | refine Hs.evb (aEw l _ _ he) ?_
    | refine Hs.evb (jT ..) ?_
    | refine Hs.opt (cM (by simp; omega)) ?_
  have b:=aGP hl (i:=g2.2.1) (by omega)
  have p:=bJn hl (i:=g2.2.1) (by omega)
  generalize tyR l (g2.2.1)=g3 at *
  obtain ⟨g3a,g3b,g3c⟩:=b
  refine Hs.par p (fun h3 _=>?_) (fun a _ he=>?_)
  rotate_left
  ·repeat' first
    | exact Hs.pure ⟨rfl,rfl,rfl,fun h=>absurd h he,trivial⟩
    | refine Hs.evb (eT l _ _ he _ (by decide)) ?_
    | refine Hs.evb (aEw l _ _ he) ?_
    | refine Hs.evb (jT ..) ?_
    | refine Hs.opt (cM (by simp; omega)) ?_
  have g3c:=g3c h3
  have b:=eN l [[111,102]] (g3.2.1) (by omega)
  have p:=aFW hl [[111,102]] (by decide) (g3.2.1)
  generalize ks l [[111,102]] (g3.2.1)=g4 at *
  obtain ⟨g4a,g4b⟩:=b
  refine Hs.parU p (fun h4=>?_) (fun he=>?_)
  rotate_left
  ·repeat' first
    | exact Hs.pure ⟨rfl,rfl,rfl,fun h=>absurd h he,trivial⟩
    | refine Hs.evb (aEw l _ _ he) ?_
    | refine Hs.evb (jT ..) ?_
    | refine Hs.opt (cM (by simp; omega)) ?_
  have b:=aT5 hl n [] (g4.2.1) (by omega)
  have p:=aX6 (ihA (g4.2.1) (by omega) (by omega) [] (by simp))
  generalize aCc l n [] (g4.2.1)=g5 at *
  obtain ⟨g5a,g5b,g5c⟩:=b
  refine Hs.par p (fun h5 hs=>?_) (fun a hs he=>?_)
  rotate_left
  ·repeat' first
    | exact Hs.pure ⟨rfl,rfl,rfl,fun h=>absurd h he,trivial⟩
    | refine Hs.evb (jT ..) ?_
    | refine Hs.opt (cM (by simp; omega)) ?_
  refine Hs.opt (cM (by simp; omega)) ?_
  exact Hs.evb (jT ..) (Hs.pure ⟨rfl,rfl,rfl,fun _=>rfl,trivial⟩)
 rw [if_neg k_fold]
 refine Hs.evb (aBE (by simpa using k_fold)) ?_
 refine Hs.isF rfl ?_
 obtain ⟨v,h1,h2⟩:=ihC i hi (by omega)
 obtain ⟨a,l',i',e'⟩:=v
 exact Hs.evb h1 (Hs.pure h2)
theorem bFc (ihE:IX l n 6 aW (fD l n)) (ihA:IA l n):IA l (n+1):=by
 intro i hi hn out ho
 rw [aCc]
 refine Hs.step (fun k=>by rw [dU]) ?_
 refine Hs.isT rfl ?_
 have b:=oK (l:=l) (i:=i) (by omega)
 have sN:=rN (l:=l) (i:=i)
 have p:=bAY hl (i)
 generalize nmR l (i)=g1 at *
 obtain ⟨g1a,g1b⟩:=b
 refine Hs.par p (fun h1 _=>?_) (fun a _ he=>?_)
 rotate_left
 ·repeat' first
   | exact Hs.pure ⟨rfl,rfl,rfl,fun h=>absurd h he,by simp; omega⟩
   | refine Hs.evb (eT l _ _ he _ (by decide)) ?_
   | refine Hs.evb (aWa l _ _ he) ?_
   | refine Hs.evb (kS l _ _ he) ?_
   | refine Hs.opt (cM (by simp; omega)) ?_
   | refine Hs.evb (mO l _ _ he _) ?_
   | refine Hs.isF rfl ?_
   | refine Hs.isT rfl ?_
 have sN:=sN h1
 have b:=oK (l:=l) (i:=g1.2.1) (by omega)
 have sN:=rN (l:=l) (i:=g1.2.1)
 have p:=bAY hl (g1.2.1)
 generalize nmR l (g1.2.1)=g2 at *
 obtain ⟨g2a,g2b⟩:=b
 refine Hs.par p (fun h2 _=>?_) (fun a _ he=>?_)
 rotate_left
 ·repeat' first
   | exact Hs.pure ⟨rfl,rfl,rfl,fun h=>absurd h he,by simp; omega⟩
   | refine Hs.evb (eT l _ _ he _ (by decide)) ?_
   | refine Hs.evb (kS l _ _ he) ?_
   | refine Hs.opt (cM (by simp; omega)) ?_
   | refine Hs.evb (mO l _ _ he _) ?_
   | refine Hs.isF rfl ?_
   | refine Hs.isT rfl ?_
 have sN:=sN h2
 have b:=eN l [[61,62]] (g2.2.1) (by omega)
 have p:=aFW hl [[61,62]] (by decide) (g2.2.1)
 generalize ks l [[61,62]] (g2.2.1)=g3 at *
 obtain ⟨g3a,g3b⟩:=b
 refine Hs.parU p (fun h3=>?_) (fun he=>?_)
 rotate_left
 ·repeat' first
   | exact Hs.pure ⟨rfl,rfl,rfl,fun h=>absurd h he,by simp; omega⟩
   | refine Hs.evb (eT l _ _ he _ (by decide)) ?_
   | refine Hs.evb (kS l _ _ he) ?_
   | refine Hs.opt (cM (by simp; omega)) ?_
   | refine Hs.evb (mO l _ _ he _) ?_
   | refine Hs.isF rfl ?_
   | refine Hs.isT rfl ?_
 have b:=nM hl n (g3.2.1) (by omega)
 have p:=ihE (g3.2.1) (by omega) (by omega)
 generalize fD l n (g3.2.1)=g4 at *
 obtain ⟨g4a,g4b,g4c⟩:=b
 refine Hs.par p (fun h4 _=>?_) (fun a _ he=>?_)
 rotate_left
 ·repeat' first
   | exact Hs.pure ⟨rfl,rfl,rfl,fun h=>absurd h he,by simp; omega⟩
   | refine Hs.evb (eT l _ _ he _ (by decide)) ?_
   | refine Hs.opt (cM (by simp; omega)) ?_
   | refine Hs.evb (mO l _ _ he _) ?_
   | refine Hs.isF rfl ?_
   | refine Hs.isT rfl ?_
 have g4c:=g4c h4
 refine Hs.opt (cM (by simp; omega)) ?_
 by_cases kb:bE l (g4.2.1:Int) [124]=true
 ·rw [if_pos kb]
  have hin:=aX kb
  refine Hs.evb (aB4 hl kb) ?_
  refine Hs.isF rfl ?_
  exact ihA (g4.2.1+1) (by omega) (by omega) _ (by simp; omega)
 ·rw [if_neg kb]
  refine Hs.evb (aBE (by simpa using kb)) ?_
  refine Hs.isT rfl ?_
  have b:=eN l [[101,110,100]] (g4.2.1) (by omega)
  have p:=aFW hl [[101,110,100]] (by decide) (g4.2.1)
  generalize ks l [[101,110,100]] (g4.2.1)=g5 at *
  obtain ⟨g5a,g5b⟩:=b
  refine Hs.parU p (fun h5=>?_) (fun he=>?_)
  rotate_left
  ·exact Hs.pure ⟨rfl,rfl,rfl,fun h=>absurd h he,by simp; omega⟩
  exact Hs.pure ⟨rfl,rfl,rfl,fun _=>rfl,by simp; omega⟩
theorem bGG (ihS:IX l n 4 eH (aF9 l n)):IX l (n+1) 5 fS (aSm l (n+1)):=by
 intro i hi hn
 rw [aSm]
 refine Hs.step (fun k=>by rw [fS]) ?_
 have b:=aQI hl n (i) (by omega)
 have p:=ihS (i) (by omega) (by omega)
 generalize aF9 l n (i)=g1 at *
 obtain ⟨g1a,g1b,g1c⟩:=b
 refine Hs.par p (fun h1 _=>?_) (fun a _ he=>?_)
 rotate_left
 ·repeat' first
   | exact Hs.pure ⟨rfl,rfl,rfl,fun h=>absurd h he,trivial⟩
   | refine Hs.evb (opX ..) ?_
   | refine Hs.evb (mO l _ _ he _) ?_
   | refine Hs.evb (aZr l _ _ he) ?_
   | refine Hs.isF rfl ?_
   | refine Hs.isT rfl ?_
 have g1c:=g1c h1
 by_cases k4:bE l (g1.2.1:Int) [61]=true
 ·rw [if_pos k4]
  have hin:=aX k4
  refine Hs.evb (aB4 hl k4) ?_
  refine Hs.isT rfl ?_
  have b:=aQI hl n (g1.2.1+1) (by omega)
  have p:=ihS (g1.2.1+1) (by omega) (by omega)
  generalize aF9 l n (g1.2.1+1)=g2 at *
  obtain ⟨g2a,g2b,g2c⟩:=b
  refine Hs.par p (fun h2 _=>?_) (fun a _ he=>?_)
  rotate_left
  ·repeat' first
    | exact Hs.pure ⟨rfl,rfl,rfl,fun h=>absurd h he,trivial⟩
    | refine Hs.evb (opX ..) ?_
  have g2c:=g2c h2
  exact Hs.evb (opX ..) (Hs.pure ⟨rfl,rfl,rfl,fun _=>rfl,trivial⟩)
 rw [if_neg k4]
 refine Hs.evb (aBE (by simpa using k4)) ?_
 refine Hs.isF rfl ?_
 by_cases k5:bE l (g1.2.1:Int) [60]=true
 ·rw [if_pos k5]
  have hin:=aX k5
  refine Hs.evb (aB4 hl k5) ?_
  refine Hs.isT rfl ?_
  have b:=aQI hl n (g1.2.1+1) (by omega)
  have p:=ihS (g1.2.1+1) (by omega) (by omega)
  generalize aF9 l n (g1.2.1+1)=g2 at *
  obtain ⟨g2a,g2b,g2c⟩:=b
  refine Hs.par p (fun h2 _=>?_) (fun a _ he=>?_)
  rotate_left
  ·repeat' first
    | exact Hs.pure ⟨rfl,rfl,rfl,fun h=>absurd h he,trivial⟩
    | refine Hs.evb (opX ..) ?_
  have g2c:=g2c h2
  exact Hs.evb (opX ..) (Hs.pure ⟨rfl,rfl,rfl,fun _=>rfl,trivial⟩)
 rw [if_neg k5]
 refine Hs.evb (aBE (by simpa using k5)) ?_
 refine Hs.isF rfl ?_
 exact Hs.pure ⟨rfl,rfl,rfl,fun _=>rfl,trivial⟩
theorem bIc (ihT:IX l n 3 dL (xU l n)) (ihL:IL l n (fun K=>bH K [43,45] [1,2]) (aDT l n)):IX l (n+1) 4 eH (aF9 l (n+1)):=by
 intro i hi hn
 refine Hs.step (fun k=>by rw [eH]) ?_
 suffices h:Hs (fun K=>kA K l (i:Int) 0 [43,45] [1,2]) (QS l TT (aF9 l (n+1) i)) by
  obtain ⟨⟨a,l',i',e'⟩,h1,h2⟩:=h
  exact Hs.evb h1 (Hs.pure h2)
 rw [aF9]
 refine Hs.step (fun k=>by rw [kA]) ?_
 have b:=aN1 hl n (i) (by omega)
 have p:=ihT (i) (by omega) (by omega)
 generalize xU l n (i)=g1 at *
 obtain ⟨g1a,g1b,g1c⟩:=b
 refine Hs.par p (fun h1 _=>?_) (fun a _ he=>?_)
 rotate_left
 ·repeat' first
   | exact Hs.pure ⟨rfl,rfl,rfl,fun h=>absurd h he,trivial⟩
   | exact Hs.ev (aOI l _ _ he _) ⟨rfl,rfl,rfl,fun h=>absurd h he,trivial⟩
 have g1c:=g1c h1
 exact ihL g1.2.1 (by omega) (by omega) _
theorem bFN (ihT:IX l n 3 dL (xU l n)) (ihL:IL l n (fun K=>bH K [43,45] [1,2]) (aDT l n)):IL l (n+1) (fun K=>bH K [43,45] [1,2]) (aDT l (n+1)):=by
 intro i hi hn a
 rw [aDT]
 show Hs (fun K=>bH K [43,45] [1,2] a l (i:Int) 0) _
 refine Hs.step (fun k=>by rw [bH]) ?_
 refine Hs.step (fun k=>by rw [cK]) ?_
 refine Hs.d (fun _=>?_) (fun h=>absurd (by decide) h)
 refine Hs.opt (a:=[43]) rfl ?_
 by_cases k0:bE l (i:Int) [43]=true
 ·rw [if_pos k0]
  have hin:=aX k0
  refine Hs.evb (aB4 hl k0) ?_
  refine Hs.isF rfl ?_
  refine Hs.d (fun h=>absurd h (by decide)) (fun _=>?_)
  refine Hs.opt (a:=1) rfl ?_
  have b:=aN1 hl n (i+1) (by omega)
  have p:=ihT (i+1) (by omega) (by omega)
  generalize xU l n (i+1)=g1 at *
  obtain ⟨g1a,g1b,g1c⟩:=b
  refine Hs.par p (fun h1 _=>?_) (fun a _ he=>?_)
  rotate_left
  ·repeat' first
    | exact Hs.pure ⟨rfl,rfl,rfl,fun h=>absurd h he,trivial⟩
    | refine Hs.evb (opX ..) ?_
    | exact Hs.ev (aOI l _ _ he _) ⟨rfl,rfl,rfl,fun h=>absurd h he,trivial⟩
  have g1c:=g1c h1
  refine Hs.evb (opX ..) ?_
  exact ihL g1.2.1 (by omega) (by omega) _
 rw [if_neg k0]
 refine Hs.evb (aBE (by simpa using k0)) ?_
 refine Hs.isT rfl ?_
 refine Hs.step (fun k=>by rw [cK]) ?_
 refine Hs.d (fun _=>?_) (fun h=>absurd (by decide) h)
 refine Hs.opt (a:=[45]) rfl ?_
 by_cases k1:bE l (i:Int) [45]=true
 ·rw [if_pos k1]
  have hin:=aX k1
  refine Hs.evb (aB4 hl k1) ?_
  refine Hs.isF rfl ?_
  refine Hs.d (fun h=>absurd h (by decide)) (fun _=>?_)
  refine Hs.opt (a:=2) rfl ?_
  have b:=aN1 hl n (i+1) (by omega)
  have p:=ihT (i+1) (by omega) (by omega)
  generalize xU l n (i+1)=g1 at *
  obtain ⟨g1a,g1b,g1c⟩:=b
  refine Hs.par p (fun h1 _=>?_) (fun a _ he=>?_)
  rotate_left
  ·repeat' first
    | exact Hs.pure ⟨rfl,rfl,rfl,fun h=>absurd h he,trivial⟩
    | refine Hs.evb (opX ..) ?_
    | exact Hs.ev (aOI l _ _ he _) ⟨rfl,rfl,rfl,fun h=>absurd h he,trivial⟩
  have g1c:=g1c h1
  refine Hs.evb (opX ..) ?_
  exact ihL g1.2.1 (by omega) (by omega) _
 rw [if_neg k1]
 refine Hs.evb (aBE (by simpa using k1)) ?_
 refine Hs.isT rfl ?_
 refine Hs.step (fun k=>by rw [cK]) ?_
 refine Hs.d (fun h=>absurd h (by decide)) (fun _=>?_)
 refine Hs.d (fun _=>?_) (fun h=>absurd (by decide) h)
 exact Hs.pure ⟨rfl,rfl,rfl,fun _=>rfl,trivial⟩
theorem bFF (ihP:IX l n 2 dV (aJX l n)) (ihL:IL l n (fun K=>bA K [42] [3]) (aAw l n)):IX l (n+1) 3 dL (xU l (n+1)):=by
 intro i hi hn
 refine Hs.step (fun k=>by rw [dL]) ?_
 suffices h:Hs (fun K=>iD K l (i:Int) 0 [42] [3]) (QS l TT (xU l (n+1) i)) by
  obtain ⟨⟨a,l',i',e'⟩,h1,h2⟩:=h
  exact Hs.evb h1 (Hs.pure h2)
 rw [xU]
 refine Hs.step (fun k=>by rw [iD]) ?_
 have b:=aV1 hl n (i) (by omega)
 have p:=ihP (i) (by omega) (by omega)
 generalize aJX l n (i)=g1 at *
 obtain ⟨g1a,g1b,g1c⟩:=b
 refine Hs.par p (fun h1 _=>?_) (fun a _ he=>?_)
 rotate_left
 ·repeat' first
   | exact Hs.pure ⟨rfl,rfl,rfl,fun h=>absurd h he,trivial⟩
   | exact Hs.ev (aSG l _ _ he _) ⟨rfl,rfl,rfl,fun h=>absurd h he,trivial⟩
 have g1c:=g1c h1
 exact ihL g1.2.1 (by omega) (by omega) _
theorem bEu (ihP:IX l n 2 dV (aJX l n)) (ihL:IL l n (fun K=>bA K [42] [3]) (aAw l n)):IL l (n+1) (fun K=>bA K [42] [3]) (aAw l (n+1)):=by
 intro i hi hn a
 rw [aAw]
 show Hs (fun K=>bA K [42] [3] a l (i:Int) 0) _
 refine Hs.step (fun k=>by rw [bA]) ?_
 refine Hs.step (fun k=>by rw [dI]) ?_
 refine Hs.d (fun _=>?_) (fun h=>absurd (by decide) h)
 refine Hs.opt (a:=[42]) rfl ?_
 by_cases k0:bE l (i:Int) [42]=true
 ·rw [if_pos k0]
  have hin:=aX k0
  refine Hs.evb (aB4 hl k0) ?_
  refine Hs.isF rfl ?_
  refine Hs.d (fun h=>absurd h (by decide)) (fun _=>?_)
  refine Hs.opt (a:=3) rfl ?_
  have b:=aV1 hl n (i+1) (by omega)
  have p:=ihP (i+1) (by omega) (by omega)
  generalize aJX l n (i+1)=g1 at *
  obtain ⟨g1a,g1b,g1c⟩:=b
  refine Hs.par p (fun h1 _=>?_) (fun a _ he=>?_)
  rotate_left
  ·repeat' first
    | exact Hs.pure ⟨rfl,rfl,rfl,fun h=>absurd h he,trivial⟩
    | refine Hs.evb (opX ..) ?_
    | exact Hs.ev (aSG l _ _ he _) ⟨rfl,rfl,rfl,fun h=>absurd h he,trivial⟩
  have g1c:=g1c h1
  refine Hs.evb (opX ..) ?_
  exact ihL g1.2.1 (by omega) (by omega) _
 rw [if_neg k0]
 refine Hs.evb (aBE (by simpa using k0)) ?_
 refine Hs.isT rfl ?_
 refine Hs.step (fun k=>by rw [dI]) ?_
 refine Hs.d (fun h=>absurd h (by decide)) (fun _=>?_)
 refine Hs.d (fun _=>?_) (fun h=>absurd (by decide) h)
 exact Hs.pure ⟨rfl,rfl,rfl,fun _=>rfl,trivial⟩
theorem bHv (ihO:IX l n 1 bY (pA l n)) (ihL:IL l n dA (aFR l n)):IX l (n+1) 2 dV (aJX l (n+1)):=by
 intro i hi hn
 rw [aJX]
 refine Hs.step (fun k=>by rw [dV]) ?_
 have b:=aIm hl n (i) (by omega)
 have p:=ihO (i) (by omega) (by omega)
 generalize pA l n (i)=g1 at *
 obtain ⟨g1a,g1b,g1c⟩:=b
 refine Hs.par p (fun h1 _=>?_) (fun a _ he=>?_)
 rotate_left
 ·repeat' first
   | exact Hs.pure ⟨rfl,rfl,rfl,fun h=>absurd h he,trivial⟩
   | exact Hs.ev (aQM l _ _ he _) ⟨rfl,rfl,rfl,fun h=>absurd h he,trivial⟩
 have g1c:=g1c h1
 exact ihL g1.2.1 (by omega) (by omega) _
theorem bFj (ihO:IX l n 1 bY (pA l n)) (ihL:IL l n dA (aFR l n)):IL l (n+1) dA (aFR l (n+1)):=by
 intro i hi hn a
 rw [aFR]
 refine Hs.step (fun k=>by rw [dA]) ?_
 refine Hs.evb (bBB hl hi) ?_
 by_cases k0:stS l i=true
 ·rw [if_pos k0]
  have hin:=aZi k0
  refine Hs.isT k0 ?_
  have b:=aIm hl n (i) (by omega)
  have p:=ihO (i) (by omega) (by omega)
  generalize pA l n (i)=g1 at *
  obtain ⟨g1a,g1b,g1c⟩:=b
  refine Hs.par p (fun h1 _=>?_) (fun a _ he=>?_)
  rotate_left
  ·repeat' first
    | exact Hs.pure ⟨rfl,rfl,rfl,fun h=>absurd h he,trivial⟩
    | refine Hs.evb (jT ..) ?_
    | exact Hs.ev (aQM l _ _ he _) ⟨rfl,rfl,rfl,fun h=>absurd h he,trivial⟩
  have g1c:=g1c h1
  refine Hs.evb (jT ..) ?_
  exact ihL g1.2.1 (by omega) (by omega) _
 rw [if_neg k0]
 refine Hs.isF (by simpa using k0) ?_
 exact Hs.pure ⟨rfl,rfl,rfl,fun _=>rfl,trivial⟩
theorem bEY (ihO:IX l n 1 bY (pA l n)) (ihE:IX l n 6 aW (fD l n)):IX l (n+1) 1 bY (pA l (n+1)):=by
 intro i hi hn
 rw [pA]
 refine Hs.step (fun k=>by rw [bY]) ?_
 refine Hs.evb (bBB hl hi) ?_
 by_cases k0:stS l i=true
 ·rw [if_pos k0]
  have hin:=aZi k0
  have hw:=wr1 (i:=i) (by omega)
  refine Hs.isF (by rw [k0]; rfl) ?_
  obtain ⟨k,_,hg,hk⟩:=aFm (l:=l) (i:=(i:Int)) (by omega)
  rw [hk]
  refine Hs.opt hg ?_
  simp only
  refine Hs.d (fun c=>?_) (fun c0=>?_)
  ·rw [if_pos c]; exact Hs.pure ⟨rfl,hw,rfl,fun _=>rfl,trivial⟩
  rw [if_neg c0]
  refine Hs.d (fun c=>?_) (fun c1=>?_)
  ·rw [if_pos c]; exact Hs.evb (jT ..) (Hs.pure ⟨rfl,hw,rfl,fun _=>rfl,trivial⟩)
  rw [if_neg c1]
  refine Hs.d (fun c=>?_) (fun c2=>?_)
  ·rw [if_pos c]; exact Hs.pure ⟨rfl,hw,rfl,fun _=>rfl,trivial⟩
  rw [if_neg c2]
  refine Hs.d (fun c=>?_) (fun c3=>?_)
  ·rw [if_pos c]; exact Hs.evb (jT ..) (Hs.pure ⟨rfl,hw,rfl,fun _=>rfl,trivial⟩)
  rw [if_neg c3]
  refine Hs.d (fun c=>?_) (fun c4=>?_)
  ·rw [if_pos c,hw]
   have b:=aIm hl n (i+1) (by omega)
   have p:=ihO (i+1) (by omega) (by omega)
   generalize pA l n (i+1)=g1 at *
   obtain ⟨g1a,g1b,g1c⟩:=b
   refine Hs.par p (fun h1 _=>?_) (fun a _ he=>?_)
   rotate_left
   ·repeat' first
     | exact Hs.pure ⟨rfl,rfl,rfl,fun h=>absurd h he,trivial⟩
     | refine Hs.evb (jT ..) ?_
   have g1c:=g1c h1
   exact Hs.evb (jT ..) (Hs.pure ⟨rfl,rfl,rfl,fun _=>rfl,trivial⟩)
  rw [if_neg c4]
  refine Hs.d (fun c=>?_) (fun c5=>?_)
  ·rw [if_pos c,hw]
   have b:=aIm hl n (i+1) (by omega)
   have p:=ihO (i+1) (by omega) (by omega)
   generalize pA l n (i+1)=g1 at *
   obtain ⟨g1a,g1b,g1c⟩:=b
   refine Hs.par p (fun h1 _=>?_) (fun a _ he=>?_)
   rotate_left
   ·repeat' first
     | exact Hs.pure ⟨rfl,rfl,rfl,fun h=>absurd h he,trivial⟩
     | refine Hs.evb (jT ..) ?_
   have g1c:=g1c h1
   exact Hs.evb (jT ..) (Hs.pure ⟨rfl,rfl,rfl,fun _=>rfl,trivial⟩)
  rw [if_neg c5]
  rw [hw]
  refine Hs.step (fun k=>by rw [mX]) ?_
  by_cases k1:bE l ((i+1:Nat):Int) [41]=true
  ·rw [if_pos k1]
   have hin:=aX k1
   refine Hs.evb (aB4 hl k1) ?_
   refine Hs.isT rfl ?_
   exact Hs.evb (jT ..) (Hs.pure ⟨rfl,rfl,rfl,fun _=>rfl,trivial⟩)
  rw [if_neg k1]
  refine Hs.evb (aBE (by simpa using k1)) ?_
  refine Hs.isF rfl ?_
  have b:=nM hl n (i+1) (by omega)
  have p:=ihE (i+1) (by omega) (by omega)
  generalize fD l n (i+1)=g1 at *
  obtain ⟨g1a,g1b,g1c⟩:=b
  refine Hs.par p (fun h1 _=>?_) (fun a _ he=>?_)
  rotate_left
  ·repeat' first
    | exact Hs.pure ⟨rfl,rfl,rfl,fun h=>absurd h he,trivial⟩
    | refine Hs.evb (eT l _ _ he _ (by decide)) ?_
    | refine Hs.evb (jT ..) ?_
    | refine Hs.evb (mO l _ _ he _) ?_
    | refine Hs.isF rfl ?_
    | refine Hs.isT rfl ?_
  have g1c:=g1c h1
  by_cases k2:bE l (g1.2.1:Int) [44]=true
  ·rw [if_pos k2]
   have hin:=aX k2
   refine Hs.evb (aB4 hl k2) ?_
   refine Hs.isT rfl ?_
   have b:=nM hl n (g1.2.1+1) (by omega)
   have p:=ihE (g1.2.1+1) (by omega) (by omega)
   generalize fD l n (g1.2.1+1)=g2 at *
   obtain ⟨g2a,g2b,g2c⟩:=b
   refine Hs.par p (fun h2 _=>?_) (fun a _ he=>?_)
   rotate_left
   ·repeat' first
     | exact Hs.pure ⟨rfl,rfl,rfl,fun h=>absurd h he,trivial⟩
     | refine Hs.evb (eT l _ _ he _ (by decide)) ?_
     | refine Hs.evb (jT ..) ?_
   have g2c:=g2c h2
   refine Hs.evb (jT ..) ?_
   have b:=eN l [[41]] (g2.2.1) (by omega)
   have p:=aFW hl [[41]] (by decide) (g2.2.1)
   generalize ks l [[41]] (g2.2.1)=g3 at *
   obtain ⟨g3a,g3b⟩:=b
   refine Hs.parU p (fun h3=>?_) (fun he=>?_)
   rotate_left
   ·exact Hs.pure ⟨rfl,rfl,rfl,fun h=>absurd h he,trivial⟩
   exact Hs.pure ⟨rfl,rfl,rfl,fun _=>rfl,trivial⟩
  rw [if_neg k2]
  refine Hs.evb (aBE (by simpa using k2)) ?_
  refine Hs.isF rfl ?_
  have b:=eN l [[41]] (g1.2.1) (by omega)
  have p:=aFW hl [[41]] (by decide) (g1.2.1)
  generalize ks l [[41]] (g1.2.1)=g2 at *
  obtain ⟨g2a,g2b⟩:=b
  refine Hs.parU p (fun h2=>?_) (fun he=>?_)
  rotate_left
  ·exact Hs.pure ⟨rfl,rfl,rfl,fun h=>absurd h he,trivial⟩
  exact Hs.pure ⟨rfl,rfl,rfl,fun _=>rfl,trivial⟩
 ·rw [if_neg k0]
  refine Hs.isT (by simpa using k0) ?_
  refine Hs.evb (aXa l _ _) ?_
  exact Hs.pure ⟨rfl,rfl,rfl,fun _=>rfl,trivial⟩
omit hl in
theorem aCQ {c:Nat} {f:Nat→List aI→Int→Int→Option (Tr×List aI×Int×Int)} {g:Nat→RT} (hc:0<c):IX l 0 c f g:=fun j _ h=>by omega
omit hl in
theorem aPa {f:Nat→Tr→List aI→Int→Int→Option (Tr×List aI×Int×Int)} {g:Tr→Nat→RT}:IL l 0 f g:=fun j _ h=>by omega
theorem bHD:∀ n,IX l n 6 aW (fD l n)∧IA l n∧IX l n 5 fS (aSm l n)∧IX l n 4 eH (aF9 l n)∧IL l n (fun K=>bH K [43,45] [1,2]) (aDT l n) ∧
  IX l n 3 dL (xU l n)∧IL l n (fun K=>bA K [42] [3]) (aAw l n)∧IX l n 2 dV (aJX l n)∧IL l n dA (aFR l n)∧IX l n 1 bY (pA l n):=by
 intro n
 induction n with
 | zero=>exact ⟨aCQ (by decide),fun j _ h=>by omega,aCQ (by decide),aCQ (by decide),aPa,aCQ (by decide),aPa,aCQ (by decide),aPa,aCQ (by decide)⟩
 | succ n ih =>
  obtain ⟨i1,i2,i3,i4,i5,i6,i7,i8,i9,i10⟩:=ih
  exact ⟨bFK hl i1 i2 i3,bFc hl i1 i2,bGG hl i4,bIc hl i6 i5,bFN hl i6 i5,bFF hl i8 i7,bEu hl i8 i7,bHv hl i10 i9,bFj hl i10 i9,bEY hl i10 i1⟩
end
end Go.Proofs.YtjhfgiieicloeaaGreatDoor

/- The program's parser of expressions, at any place. -/
namespace Go.Proofs.YtjhfgiieicloeaaGreatDoor
open Go Go.Am Go.Sx
def aXS (g:RT):Tr×Int×Int:=(if g.2.2=0 then g.1 else .nil,((g.2.1:Nat):Int),g.2.2)
section
variable {l:List aI} (hl:l.length≤20000)
include hl
theorem bHw {n i:Nat} (hi:i≤l.length) (hn:8 * (l.length - i)+6≤n):Ev (fun K=>aFA K l (i:Int)) (aXS (fD l n i)):=by
 obtain ⟨⟨a,l',i',e'⟩,h1,h2,h3,h4,h5,_⟩:=(bHD hl n).1 i hi hn
 simp only at h2 h3 h4 h5
 subst h2 h3 h4
 refine Ev.congr (f:=fun K=>_) ?_ (fun k=>by rw [aFA])
 refine Ev.dF (by omega) ?_
 refine Ev.dF (by omega) ?_
 refine Ev.bind h1 ?_
 unfold aXS
 refine Ev.n (fun he=>Ev.pure' (by rw [if_neg he])) (fun he=>Ev.pure' (by rw [if_pos he,he,h5 he]))
end
end Go.Proofs.YtjhfgiieicloeaaGreatDoor

