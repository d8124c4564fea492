/- Joined texts: Y3a, Y3, Y5p. -/
import Derived.Test.YtjhfgiieicloeaaGreatDoorGw
import Derived.Test.YtjhfgiieicloeaaGreatDoorGp
/- The parser of expressions: keys, names, types, what it does behind an error. -/
namespace Go.Proofs.YtjhfgiieicloeaaGreatDoor
open Go Go.Am Go.Sx
theorem Hs.isT {α:Type} {Q:α→Prop} {c:Bool} {f g:Nat→Option α} (h:c=true) (k:Hs f Q):Hs (fun K=>iteS c (f K) (g K)) Q:=Hs.is (fun _=>k) (fun h'=>by rw [h] at h'; cases h')
theorem Hs.isF {α:Type} {Q:α→Prop} {c:Bool} {f g:Nat→Option α} (h:c=false) (k:Hs g Q):Hs (fun K=>iteS c (f K) (g K)) Q:=Hs.is (fun h'=>by rw [h] at h'; cases h') (fun _=>k)
theorem Hs.ev {α:Type} {Q:α→Prop} {f:Nat→Option α} {v:α} (h:Ev f v) (k:Q v):Hs f Q:=⟨v,h,k⟩
def QS {α:Type} (l:List aF) (T:α→Prop) (r:α×Nat×Int) (x:α×List aF×Int×Int):Prop:=x.2.1=l∧x.2.2.1=((r.2.1:Nat):Int)∧x.2.2.2=r.2.2∧(r.2.2=0→x.1=r.1)∧T x.1
abbrev TT:Tr→Prop:=fun _=>True
theorem Hs.par {α β:Type} {l:List aF} {S:α→Prop} {T:β→Prop} {f:Nat→Option (α×List aF×Int×Int)} {g:α×List aF×Int×Int→Nat→Option (β×List aF×Int×Int)} {r:α×Nat×Int} {d:β} {h:α→Nat→β×Nat×Int}
  (hf:Hs f (QS l S r)) (ok:r.2.2=0→S r.1→Hs (g (r.1,l,((r.2.1:Nat):Int),0)) (QS l T (h r.1 r.2.1))) (no:∀ a,S a→r.2.2≠0→Hs (g (a,l,((r.2.1:Nat):Int),r.2.2)) (QS l T (d,r.2.1,r.2.2))):Hs (fun K=>(f K).bind fun x=>g x K) (QS l T (bnd d r h)):=by
 obtain ⟨⟨a,l',i',e'⟩,h1,h2,h3,h4,h5,h6⟩:=hf
 simp only at h2 h3 h4 h5 h6
 subst h2 h3 h4
 unfold bnd
 by_cases he:r.2.2=0
 ·rw [if_pos he]
  have e:=h5 he
  subst e
  rw [he] at h1
  exact Hs.evb h1 (ok he h6)
 ·rw [if_neg he]
  exact Hs.evb h1 (no a h6 he)
theorem Hs.parU {β:Type} {l:List aF} {T:β→Prop} {f:Nat→Option (List aF×Int×Int)} {g:List aF×Int×Int→Nat→Option (β×List aF×Int×Int)} {r:Unit×Nat×Int} {d:β} {h:Unit→Nat→β×Nat×Int}
  (hf:Ev f (l,((r.2.1:Nat):Int),r.2.2)) (ok:r.2.2=0→Hs (g (l,((r.2.1:Nat):Int),0)) (QS l T (h r.1 r.2.1))) (no:r.2.2≠0→Hs (g (l,((r.2.1:Nat):Int),r.2.2)) (QS l T (d,r.2.1,r.2.2))):Hs (fun K=>(f K).bind fun x=>g x K) (QS l T (bnd d r h)):=by
 unfold bnd
 by_cases he:r.2.2=0
 ·rw [if_pos he]
  rw [he] at hf
  exact Hs.evb hf (ok he)
 ·rw [if_neg he]
  exact Hs.evb hf (no he)
theorem jZ (c:Int) (s:List UInt8) (ks:List Tr):Ev (fun K=>kD K c s ks) (.node c 0 s [] ks):=⟨0,fun _ _=>rfl⟩
theorem opX (c:Int) (a b:Tr):Ev (fun K=>aBO K c a b) (opN c a b):=⟨0,fun _ _=>rfl⟩
/-! ### behind an error -/
section
variable (l:List aF) (i e:Int) (he:e≠0)
include he
theorem mN (t:List UInt8):Ev (fun K=>bF K l i e t) (false,l,i,e) :=
 Ev.congr (f:=fun K=>_) (Ev.nT he Ev.pure) (fun k=>by rw [bF])
theorem aQx (c:Int):Ev (fun K=>eM K l i e c) (l,i,e) :=
 Ev.congr (f:=fun K=>_) (Ev.dF he Ev.pure) (fun k=>by rw [eM])
theorem aSh (t:List (List UInt8)) (ht:t.length≤1000):∀ (m j:Nat),t.length=j+m→Ev (fun K=>cG K t (j:Int) l i e) (l,i,e):=by
 intro m
 induction m with
 | zero =>
  intro j hj
  exact Ev.step (fun k=>by rw [cG]) (Ev.dF (by omega) Ev.pure)
 | succ m ih =>
  intro j hj
  refine Ev.step (fun k=>by rw [cG]) ?_
  refine Ev.dT (by omega) ?_
  refine Ev.opt (dL (by omega)) ?_
  refine Ev.bind (mN l i e he _) ?_
  refine Ev.isT rfl ?_
  refine Ev.bind (aQx l i e he _) ?_
  rw [bZ (by omega)]
  exact ih (j+1) (by omega)
theorem eX (t:List (List UInt8)) (ht:t.length≤1000):Ev (fun K=>aY K l i e t) (l,i,e):=by
 refine Ev.congr (f:=fun K=>_) ?_ (fun k=>by rw [aY])
 exact aSh l i e he t ht t.length 0 (by omega)
theorem aVS:Ev (fun K=>fE K l i e) ([],l,i,e):=by
 refine Ev.congr (f:=fun K=>_) ?_ (fun k=>by rw [fE])
 refine Ev.bind (aDe l i) ?_
 refine Ev.nT he ?_
 exact Ev.bind (aQx l i e he 6) Ev.pure
theorem aHR:Ev (fun K=>iY K l i e) (.nil,l,i,e) :=
 Ev.congr (f:=fun K=>_) (Ev.nT he Ev.pure) (fun k=>by rw [iY])
theorem aQU:Ev (fun K=>gQ K l i e) (false,l,i,e) :=
 Ev.congr (f:=fun K=>_) (Ev.nT he Ev.pure) (fun k=>by rw [gQ])
theorem bBY:Ev (fun K=>cC K l i e) (.nil,l,i,e):=by
 refine Ev.step (fun k=>by rw [cC]) ?_
 refine Ev.bind (aQU l i e he) ?_
 refine Ev.isT rfl ?_
 exact Ev.bind (aQx l i e he 6) Ev.pure
theorem aPX (a:Tr):Ev (fun K=>cZ K a l i e) (a,l,i,e):=by
 refine Ev.step (fun k=>by rw [cZ]) ?_
 refine Ev.bind (aQU l i e he) ?_
 exact Ev.isF rfl Ev.pure
theorem bCV:Ev (fun K=>dZ K l i e) (.nil,l,i,e):=by
 refine Ev.step (fun k=>by rw [dZ]) ?_
 refine Ev.bind (bBY l i e he) ?_
 exact aPX l i e he _
theorem aR4 (a:Tr):Ev (fun K=>bB K [42] [3] a l i e) (a,l,i,e):=by
 refine Ev.step (fun k=>by rw [bB]) ?_
 refine Ev.step (fun k=>by rw [dR]) ?_
 refine Ev.dT (by decide) ?_
 refine Ev.opt (a:=[42]) rfl ?_
 refine Ev.bind (mN l i e he _) ?_
 refine Ev.isT rfl ?_
 refine Ev.step (fun k=>by rw [dR]) ?_
 refine Ev.dF (by decide) ?_
 exact Ev.dT (by decide) Ev.pure
theorem bBo:Ev (fun K=>dO K l i e) (.nil,l,i,e):=by
 refine Ev.step (fun k=>by rw [dO]) ?_
 refine Ev.bind (a:=(.nil,l,i,e)) ?_ Ev.pure
 refine Ev.step (fun k=>by rw [iK]) ?_
 refine Ev.bind (bCV l i e he) ?_
 exact aR4 l i e he _
theorem aPl (a:Tr):Ev (fun K=>bH K [43,45] [1,2] a l i e) (a,l,i,e):=by
 refine Ev.step (fun k=>by rw [bH]) ?_
 refine Ev.step (fun k=>by rw [cM]) ?_
 refine Ev.dT (by decide) ?_
 refine Ev.opt (a:=[43]) rfl ?_
 refine Ev.bind (mN l i e he _) ?_
 refine Ev.isT rfl ?_
 refine Ev.step (fun k=>by rw [cM]) ?_
 refine Ev.dT (by decide) ?_
 refine Ev.opt (a:=[45]) rfl ?_
 refine Ev.bind (mN l i e he _) ?_
 refine Ev.isT rfl ?_
 refine Ev.step (fun k=>by rw [cM]) ?_
 refine Ev.dF (by decide) ?_
 exact Ev.dT (by decide) Ev.pure
theorem aYb:Ev (fun K=>eK K l i e) (.nil,l,i,e):=by
 refine Ev.step (fun k=>by rw [eK]) ?_
 refine Ev.bind (a:=(.nil,l,i,e)) ?_ Ev.pure
 refine Ev.step (fun k=>by rw [kE]) ?_
 refine Ev.bind (bBo l i e he) ?_
 exact aPl l i e he _
theorem bCu:Ev (fun K=>gI K l i e) (.nil,l,i,e):=by
 refine Ev.step (fun k=>by rw [gI]) ?_
 refine Ev.bind (aYb l i e he) ?_
 refine Ev.bind (mN l i e he _) ?_
 refine Ev.isF rfl ?_
 refine Ev.bind (mN l i e he _) ?_
 exact Ev.isF rfl Ev.pure
theorem bAc (out:List Tr):Ev (fun K=>dX K out l i e) (out,l,i,e):=by
 refine Ev.step (fun k=>by rw [dX]) ?_
 refine Ev.dF he ?_
 exact Ev.bind (eX l i e he _ (by decide)) Ev.pure
theorem aEq:Ev (fun K=>hQ K l i e) ([],l,i,e) :=
 Ev.step (fun k=>by rw [hQ]) (bAc l i e he _)
theorem kX:Ev (fun K=>aW K l i e) (.nil,l,i,e):=by
 refine Ev.step (fun k=>by rw [aW]) ?_
 refine Ev.bind (mN l i e he _) ?_
 refine Ev.isF rfl ?_
 refine Ev.bind (mN l i e he _) ?_
 refine Ev.isF rfl ?_
 refine Ev.bind (mN l i e he _) ?_
 refine Ev.isF rfl ?_
 refine Ev.bind (mN l i e he _) ?_
 refine Ev.isF rfl ?_
 refine Ev.bind (mN l i e he _) ?_
 refine Ev.isF rfl ?_
 exact Ev.bind (bCu l i e he) Ev.pure
end
/-! ### steps behind an error -/
section
variable {α:Type} {Q:α→Prop} {l:List aF} {i e:Int} (he:e≠0)
include he
theorem dT {g:Tr×List aF×Int×Int→Nat→Option α} (k:Hs (g (.nil,l,i,e)) Q):Hs (fun K=>(iY K l i e).bind fun x=>g x K) Q:=Hs.evb (aHR l i e he) k
end
section
variable {l:List aF} {i:Nat} {e:Int} (he:e≠0)
include he
theorem d1 {a:Tr}:Hs (fun K=>bH K [43,45] [1,2] a l (i:Int) e) (QS l TT (.nil,i,e)):=Hs.ev (aPl l _ _ he _) ⟨rfl,rfl,rfl,fun h=>absurd h he,trivial⟩
theorem d2 {a:Tr}:Hs (fun K=>bB K [42] [3] a l (i:Int) e) (QS l TT (.nil,i,e)):=Hs.ev (aR4 l _ _ he _) ⟨rfl,rfl,rfl,fun h=>absurd h he,trivial⟩
end
/-! ### no error yet -/
theorem aBb {l:List aF} {i:Int} {t:List UInt8} (h:bE l i t=false):Ev (fun K=>bF K l i 0 t) (false,l,i,0):=by
 refine Ev.congr (f:=fun K=>_) ?_ (fun k=>by rw [bF])
 refine Ev.nF rfl ?_
 refine Ev.bind (aCV l i t) ?_
 exact Ev.isT (by rw [h]; rfl) Ev.pure
theorem aW7 (l:List aF) (i c:Int):Ev (fun K=>eM K l i 0 c) (l,i,c) :=
 Ev.congr (f:=fun K=>_) (Ev.dT rfl Ev.pure) (fun k=>by rw [eM])
section
variable {l:List aF} (hl:l.length≤20000)
include hl
theorem aBY {i:Nat} {t:List UInt8} (h:bE l (i:Int) t=true):Ev (fun K=>bF K l (i:Int) 0 t) (true,l,((i+1:Nat):Int),0):=by
 have hin:=aX h
 refine Ev.congr (f:=fun K=>_) ?_ (fun k=>by rw [bF])
 refine Ev.nF rfl ?_
 refine Ev.bind (aCV l i t) ?_
 exact Ev.isF (by rw [h]; rfl) (Ev.pure' (by rw [wr1 (by omega)]))
theorem bGR (t:List (List UInt8)) (ht:t.length≤1000):∀ (m j i:Nat),t.length=j+m→Ev (fun K=>cG K t (j:Int) l (i:Int) 0) (l,(((ks l (t.drop j) i).2.1:Nat):Int),(ks l (t.drop j) i).2.2):=by
 intro m
 induction m with
 | zero =>
  intro j i hj
  rw [List.drop_of_length_le (by omega),ks]
  exact Ev.step (fun k=>by rw [cG]) (Ev.dF (by omega) Ev.pure)
 | succ m ih =>
  intro j i hj
  have hlt:j<t.length:=by omega
  rw [iL hlt,ks]
  refine Ev.step (fun k=>by rw [cG]) ?_
  refine Ev.dT (by omega) ?_
  refine Ev.opt (dL hlt) ?_
  by_cases hk:bE l (i:Int) t[j]=true
  ·rw [if_pos hk]
   refine Ev.bind (aBY hl hk) ?_
   refine Ev.isF rfl ?_
   rw [bZ (by omega)]
   exact ih (j+1) (i+1) (by omega)
  ·rw [if_neg hk]
   refine Ev.bind (aBb (by simpa using hk)) ?_
   refine Ev.isT rfl ?_
   refine Ev.bind (aW7 l i 6) ?_
   rw [bZ (by omega)]
   exact aSh l i 6 (by decide) t ht m (j+1) (by omega)
theorem aEL (t:List (List UInt8)) (ht:t.length≤1000) (i:Nat):Ev (fun K=>aY K l (i:Int) 0 t) (l,(((ks l t i).2.1:Nat):Int),(ks l t i).2.2):=by
 refine Ev.congr (f:=fun K=>_) ?_ (fun k=>by rw [aY])
 exact bGR hl t ht t.length 0 i (by omega)
theorem bAm (i:Nat):Hs (fun K=>fE K l (i:Int) 0) (QS l (fun _=>True) (nmR l i)):=by
 refine Hs.congr (f:=fun K=>_) ?_ (fun k=>by rw [fE])
 have p:=aDe l i
 unfold nmR
 have hin:=aLm (l:=l) (i:=(i:Int))
 generalize qB l (i:Int)=N at *
 obtain ⟨s,b⟩:=N
 refine Hs.evb p ?_
 refine Hs.n (fun h=>absurd rfl h) (fun _=>?_)
 cases b with
 | false =>
  refine Hs.isT rfl ?_
  refine Hs.evb (aW7 l i 6) ?_
  exact Hs.pure ⟨rfl,rfl,rfl,fun _=>rfl,trivial⟩
 | true =>
  have hin:=hin rfl
  refine Hs.isF rfl ?_
  exact Hs.pure ⟨rfl,by simp only [if_true]; rw [wr1 (by omega)],rfl,fun _=>rfl,trivial⟩
theorem aXY {i:Nat} (hi:i≤l.length):Ev (fun K=>aCo K l (i:Int)) (if (tyR l i).2.2=0 then (tyR l i).1 else .nil,(((tyR l i).2.1:Nat):Int),(tyR l i).2.2):=by
 obtain ⟨t',h1,h5,h4,h3⟩:=(aWl hl (3 * l.length+3) i hi).1 (by omega)
 unfold tyR
 generalize aFw l (3 * l.length+3) i=g at *
 refine Ev.congr (f:=fun K=>_) ?_ (fun k=>by rw [aCo])
 refine Ev.bind (aYO hl (by omega)) ?_
 refine Ev.bind h1 ?_
 refine Ev.n (fun he=>Ev.pure' (by rw [if_neg he])) (fun he=>Ev.pure' (by rw [if_pos he,he,(h5 he).1]))
theorem bIJ {i:Nat} (hi:i≤l.length):Hs (fun K=>iY K l (i:Int) 0) (QS l TT (tyR l i)):=by
 refine Hs.congr (f:=fun K=>_) ?_ (fun k=>by rw [iY])
 refine Hs.n (fun h=>absurd rfl h) (fun _=>?_)
 refine Hs.evb (aXY hl hi) ?_
 refine Hs.evb (aW7 l _ _) ?_
 exact Hs.pure ⟨rfl,rfl,rfl,fun he=>if_pos he,trivial⟩
theorem bAx {i:Nat} (hi:i≤l.length):Ev (fun K=>gQ K l (i:Int) 0) (stS l i,l,(i:Int),0):=by
 have:=hl
 refine Ev.congr (f:=fun K=>_) ?_ (fun k=>by rw [gQ])
 refine Ev.nF rfl ?_
 by_cases hlt:i<l.length
 ·obtain ⟨k,_,hg,hk⟩:=aFa (l:=l) (i:=(i:Int)) (by omega)
  have hkey:∀ t,bE l (i:Int) t=(decide (k.1=3) && decide (k.2.1=t)):=fun t=>by unfold bE; rw [hk]
  have hlong:aDm l (i:Int)=if k.1=1∧lgS k.2.1=true then (k.2.1,true) else ([],false):=by unfold aDm; rw [hk]
  have hst:stS l i=if k.1=3 then decide (k.2.1=[116,114,117,101]) || (decide (k.2.1=[102,97,108,115,101]) || (decide (k.2.1=[40]) || (decide (k.2.1=[35,49]) || decide (k.2.1=[35,50]))))
   else if k.1=2 then decide (-1073741824≤k.2.2.1) && decide (k.2.2.1≤1073741824) else decide (k.1=1) && lgS k.2.1:=by unfold stS; rw [hk]
  rw [hst]
  refine Ev.dF (by omega) ?_
  have key:∀ t,Ev (fun K=>kY K l (i:Int) t) (decide (k.1=3) && decide (k.2.1=t)):=fun t=>by have:=aCV l i t; rwa [hkey] at this
  by_cases h3:k.1=3
  ·rw [if_pos h3]
   have key:∀ t,Ev (fun K=>kY K l (i:Int) t) (decide (k.2.1=t)):=fun t=>by have:=key t; rwa [decide_eq_true h3,Bool.true_and] at this
   refine Ev.bind (key _) ?_
   refine Ev.d (fun e=>Ev.pure' (by rw [decide_eq_true e,Bool.true_or])) (fun e=>?_)
   rw [decide_eq_false e,Bool.false_or]
   refine Ev.bind (key _) ?_
   refine Ev.d (fun e=>Ev.pure' (by rw [decide_eq_true e,Bool.true_or])) (fun e=>?_)
   rw [decide_eq_false e,Bool.false_or]
   refine Ev.bind (key _) ?_
   refine Ev.d (fun e=>Ev.pure' (by rw [decide_eq_true e,Bool.true_or])) (fun e=>?_)
   rw [decide_eq_false e,Bool.false_or]
   refine Ev.bind (key _) ?_
   refine Ev.d (fun e=>Ev.pure' (by rw [decide_eq_true e,Bool.true_or])) (fun e=>?_)
   rw [decide_eq_false e,Bool.false_or]
   refine Ev.bind (key _) ?_
   refine Ev.d (fun e=>Ev.pure' (by rw [decide_eq_true e])) (fun e=>?_)
   rw [decide_eq_false e]
   refine Ev.bind (aK6 l i) ?_
   rw [hlong,if_neg (by omega)]
   refine Ev.isF rfl ?_
   refine Ev.opt hg ?_
   refine Ev.bind (a:=false) ?_ Ev.pure
   refine Ev.congr (f:=fun K=>_) ?_ (fun k=>by rw [wZ])
   exact Ev.dF (by omega) Ev.pure
  ·rw [if_neg h3]
   have key:∀ t,Ev (fun K=>kY K l (i:Int) t) false:=fun t=>by have:=key t; rwa [decide_eq_false h3,Bool.false_and] at this
   refine Ev.bind (key _) (Ev.isF rfl ?_)
   refine Ev.bind (key _) (Ev.isF rfl ?_)
   refine Ev.bind (key _) (Ev.isF rfl ?_)
   refine Ev.bind (key _) (Ev.isF rfl ?_)
   refine Ev.bind (key _) (Ev.isF rfl ?_)
   refine Ev.bind (aK6 l i) ?_
   rw [hlong]
   by_cases h2:k.1=2
   ·rw [if_pos h2,if_neg (by omega)]
    refine Ev.isF rfl ?_
    refine Ev.opt hg ?_
    refine Ev.bind (a:=decide (-1073741824≤k.2.2.1) && decide (k.2.2.1≤1073741824)) ?_ Ev.pure
    refine Ev.congr (f:=fun K=>_) ?_ (fun k=>by rw [wZ])
    refine Ev.dT h2 ?_
    refine Ev.d (fun e=>Ev.pure' (by rw [decide_eq_true e,Bool.true_and])) (fun e=>Ev.pure' (by rw [decide_eq_false e,Bool.false_and]))
   ·rw [if_neg h2]
    by_cases h1:k.1=1∧lgS k.2.1=true
    ·rw [if_pos h1]
     refine Ev.isT rfl (Ev.pure' ?_)
     rw [decide_eq_true h1.1,h1.2]; rfl
    ·rw [if_neg h1]
     refine Ev.isF rfl ?_
     refine Ev.opt hg ?_
     refine Ev.bind (a:=false) ?_ (Ev.pure' ?_)
     ·refine Ev.congr (f:=fun K=>_) ?_ (fun k=>by rw [wZ])
      exact Ev.dF h2 Ev.pure
     ·by_cases h0:k.1=1
      ·have:lgS k.2.1=false:=by
        cases hx:lgS k.2.1 with
        | false=>rfl
        | true=>exact absurd ⟨h0,hx⟩ h1
       rw [this,Bool.and_false]
      ·rw [decide_eq_false h0,Bool.false_and]
 ·refine Ev.dT (by omega) (Ev.pure' ?_)
  have:stS l i=false:=by
   cases hx:stS l i with
   | false=>rfl
   | true=>exact absurd (aYE hx) hlt
  rw [this]
end
end Go.Proofs.YtjhfgiieicloeaaGreatDoor

/- The program's parser of expressions comes to its plain functions. Printed by gen7/y3.py. -/
namespace Go.Proofs.YtjhfgiieicloeaaGreatDoor
open Go Go.Am Go.Sx
def IX (l:List aF) (n c:Nat) (f:Nat→List aF→Int→Int→Option (Tr×List aF×Int×Int)) (g:Nat→RT):Prop:=∀ j,j≤l.length→8 * (l.length - j)+c≤n→Hs (fun K=>f K l (j:Int) 0) (QS l TT (g j))
def IL (l:List aF) (n:Nat) (f:Nat→Tr→List aF→Int→Int→Option (Tr×List aF×Int×Int)) (g:Tr→Nat→RT):Prop:=∀ j,j≤l.length→8 * (l.length - j)+2≤n→∀ a,Hs (fun K=>f K a l (j:Int) 0) (QS l TT (g a j))
def IA (l:List aF) (n:Nat):Prop:=∀ j,j≤l.length→8 * (l.length - j)+1≤n→∀ out,out.length≤j→Hs (fun K=>dX K out l (j:Int) 0) (QS l (fun a=>a.length≤40000) (aB6 l n out j))
theorem aX5 {l:List aF} {i:Int} {Q:List Tr×List aF×Int×Int→Prop} (h:Hs (fun K=>dX K [] l i 0) Q):Hs (fun K=>hQ K l i 0) Q :=
 Hs.step (fun k=>by rw [hQ]) h
theorem rM {l:List aF} {i:Nat} (h:(nmR l i).2.2=0):(nmR l i).2.1=i+1:=by
 unfold nmR at h ⊢
 by_cases hk:(qB l (i:Int)).2=true
 ·rw [if_pos hk]
 ·rw [if_neg hk] at h; exact absurd (show (6:Int)=0 from h) (by decide)
section
variable {l:List aF} (hl:l.length≤20000)
include hl
theorem nP (n i:Nat) (hi:i≤l.length):Pz l i (2 * i) (fG l n i):=(bBV hl n i hi).1
theorem aTb (n:Nat) (out:List Tr) (i:Nat) (hi:i≤l.length):Pq l i out 0 (aB6 l n out i):=(bBV hl n i hi).2.1 out
theorem aQB (n i:Nat) (hi:i≤l.length):Pz l i (2 * i) (aGd l n i):=(bBV hl n i hi).2.2.2.1
theorem aNk (n i:Nat) (hi:i≤l.length):Pz l i (2 * i) (xR l n i):=(bBV hl n i hi).2.2.2.2.2.1
theorem aVu (n i:Nat) (hi:i≤l.length):Pz l i (2 * i) (aJH l n i):=(bBV hl n i hi).2.2.2.2.2.2.2.1
theorem aIK (n i:Nat) (hi:i≤l.length):Pz l i (2 * i) (pQ l n i):=(bBV hl n i hi).2.2.2.2.2.2.2.2.2
variable {n:Nat}
theorem bFA (ihE:IX l n 6 aW (fG l n)) (ihA:IA l n) (ihC:IX l n 5 gI (aRZ l n)):IX l (n+1) 6 aW (fG l (n+1)):=by
 intro i hi hn
 rw [fG]
 refine Hs.step (fun k=>by rw [aW]) ?_
 by_cases k_fn:bE l (i:Int) [102,110]=true
 ·rw [if_pos k_fn]
  have hin:=aX k_fn
  refine Hs.evb (aBY hl k_fn) ?_
  refine Hs.isT rfl ?_
  have b:=eQ l [[40]] (i+1) (by omega)
  have p:=aEL hl [[40]] (by decide) (i+1)
  generalize ks l [[40]] (i+1)=g1 at *
  obtain ⟨g1a,g1b⟩:=b
  refine Hs.parU p (fun h1=>?_) (fun he=>?_)
  rotate_left
  ·repeat' first
    | exact Hs.pure ⟨rfl,rfl,rfl,fun h=>absurd h he,trivial⟩
    | refine Hs.evb (eX l _ _ he _ (by decide)) ?_
    | refine Hs.evb (aVS l _ _ he) ?_
    | refine Hs.evb (aHR l _ _ he) ?_
    | refine Hs.evb (kX l _ _ he) ?_
    | refine Hs.evb (jZ ..) ?_
  have b:=oZ (l:=l) (i:=g1.2.1) (by omega)
  have sN:=rM (l:=l) (i:=g1.2.1)
  have p:=bAm hl (g1.2.1)
  generalize nmR l (g1.2.1)=g2 at *
  obtain ⟨g2a,g2b⟩:=b
  refine Hs.par p (fun h2 _=>?_) (fun a _ he=>?_)
  rotate_left
  ·repeat' first
    | exact Hs.pure ⟨rfl,rfl,rfl,fun h=>absurd h he,trivial⟩
    | refine Hs.evb (eX l _ _ he _ (by decide)) ?_
    | refine Hs.evb (aHR l _ _ he) ?_
    | refine Hs.evb (kX l _ _ he) ?_
    | refine Hs.evb (jZ ..) ?_
  have sN:=sN h2
  have b:=eQ l [[58]] (g2.2.1) (by omega)
  have p:=aEL hl [[58]] (by decide) (g2.2.1)
  generalize ks l [[58]] (g2.2.1)=g3 at *
  obtain ⟨g3a,g3b⟩:=b
  refine Hs.parU p (fun h3=>?_) (fun he=>?_)
  rotate_left
  ·repeat' first
    | exact Hs.pure ⟨rfl,rfl,rfl,fun h=>absurd h he,trivial⟩
    | refine Hs.evb (eX l _ _ he _ (by decide)) ?_
    | refine Hs.evb (aHR l _ _ he) ?_
    | refine Hs.evb (kX l _ _ he) ?_
    | refine Hs.evb (jZ ..) ?_
  have b:=aGs hl (i:=g3.2.1) (by omega)
  have p:=bIJ hl (i:=g3.2.1) (by omega)
  generalize tyR l (g3.2.1)=g4 at *
  obtain ⟨g4a,g4b,g4c⟩:=b
  refine Hs.par p (fun h4 _=>?_) (fun a _ he=>?_)
  rotate_left
  ·repeat' first
    | exact Hs.pure ⟨rfl,rfl,rfl,fun h=>absurd h he,trivial⟩
    | refine Hs.evb (eX l _ _ he _ (by decide)) ?_
    | refine Hs.evb (kX l _ _ he) ?_
    | refine Hs.evb (jZ ..) ?_
  have g4c:=g4c h4
  have b:=eQ l [[41],[61,62]] (g4.2.1) (by omega)
  have p:=aEL hl [[41],[61,62]] (by decide) (g4.2.1)
  generalize ks l [[41],[61,62]] (g4.2.1)=g5 at *
  obtain ⟨g5a,g5b⟩:=b
  refine Hs.parU p (fun h5=>?_) (fun he=>?_)
  rotate_left
  ·repeat' first
    | exact Hs.pure ⟨rfl,rfl,rfl,fun h=>absurd h he,trivial⟩
    | refine Hs.evb (kX l _ _ he) ?_
    | refine Hs.evb (jZ ..) ?_
  have b:=nP hl n (g5.2.1) (by omega)
  have p:=ihE (g5.2.1) (by omega) (by omega)
  generalize fG l n (g5.2.1)=g6 at *
  obtain ⟨g6a,g6b,g6c⟩:=b
  refine Hs.par p (fun h6 _=>?_) (fun a _ he=>?_)
  rotate_left
  ·repeat' first
    | exact Hs.pure ⟨rfl,rfl,rfl,fun h=>absurd h he,trivial⟩
    | refine Hs.evb (jZ ..) ?_
  have g6c:=g6c h6
  exact Hs.evb (jZ ..) (Hs.pure ⟨rfl,rfl,rfl,fun _=>rfl,trivial⟩)
 rw [if_neg k_fn]
 refine Hs.evb (aBb (by simpa using k_fn)) ?_
 refine Hs.isF rfl ?_
 by_cases k_let:bE l (i:Int) [108,101,116]=true
 ·rw [if_pos k_let]
  have hin:=aX k_let
  refine Hs.evb (aBY hl k_let) ?_
  refine Hs.isT rfl ?_
  have b:=oZ (l:=l) (i:=i+1) (by omega)
  have sN:=rM (l:=l) (i:=i+1)
  have p:=bAm hl (i+1)
  generalize nmR l (i+1)=g1 at *
  obtain ⟨g1a,g1b⟩:=b
  refine Hs.par p (fun h1 _=>?_) (fun a _ he=>?_)
  rotate_left
  ·repeat' first
    | exact Hs.pure ⟨rfl,rfl,rfl,fun h=>absurd h he,trivial⟩
    | refine Hs.evb (eX l _ _ he _ (by decide)) ?_
    | refine Hs.evb (kX l _ _ he) ?_
    | refine Hs.evb (jZ ..) ?_
  have sN:=sN h1
  have b:=eQ l [[61]] (g1.2.1) (by omega)
  have p:=aEL hl [[61]] (by decide) (g1.2.1)
  generalize ks l [[61]] (g1.2.1)=g2 at *
  obtain ⟨g2a,g2b⟩:=b
  refine Hs.parU p (fun h2=>?_) (fun he=>?_)
  rotate_left
  ·repeat' first
    | exact Hs.pure ⟨rfl,rfl,rfl,fun h=>absurd h he,trivial⟩
    | refine Hs.evb (eX l _ _ he _ (by decide)) ?_
    | refine Hs.evb (kX l _ _ he) ?_
    | refine Hs.evb (jZ ..) ?_
  have b:=nP hl n (g2.2.1) (by omega)
  have p:=ihE (g2.2.1) (by omega) (by omega)
  generalize fG l n (g2.2.1)=g3 at *
  obtain ⟨g3a,g3b,g3c⟩:=b
  refine Hs.par p (fun h3 _=>?_) (fun a _ he=>?_)
  rotate_left
  ·repeat' first
    | exact Hs.pure ⟨rfl,rfl,rfl,fun h=>absurd h he,trivial⟩
    | refine Hs.evb (eX l _ _ he _ (by decide)) ?_
    | refine Hs.evb (kX l _ _ he) ?_
    | refine Hs.evb (jZ ..) ?_
  have g3c:=g3c h3
  have b:=eQ l [[105,110]] (g3.2.1) (by omega)
  have p:=aEL hl [[105,110]] (by decide) (g3.2.1)
  generalize ks l [[105,110]] (g3.2.1)=g4 at *
  obtain ⟨g4a,g4b⟩:=b
  refine Hs.parU p (fun h4=>?_) (fun he=>?_)
  rotate_left
  ·repeat' first
    | exact Hs.pure ⟨rfl,rfl,rfl,fun h=>absurd h he,trivial⟩
    | refine Hs.evb (eX l _ _ he _ (by decide)) ?_
    | refine Hs.evb (kX l _ _ he) ?_
    | refine Hs.evb (jZ ..) ?_
  have b:=nP hl n (g4.2.1) (by omega)
  have p:=ihE (g4.2.1) (by omega) (by omega)
  generalize fG l n (g4.2.1)=g5 at *
  obtain ⟨g5a,g5b,g5c⟩:=b
  refine Hs.par p (fun h5 _=>?_) (fun a _ he=>?_)
  rotate_left
  ·repeat' first
    | exact Hs.pure ⟨rfl,rfl,rfl,fun h=>absurd h he,trivial⟩
    | refine Hs.evb (eX l _ _ he _ (by decide)) ?_
    | refine Hs.evb (jZ ..) ?_
  have g5c:=g5c h5
  have b:=eQ l [[101,110,100]] (g5.2.1) (by omega)
  have p:=aEL hl [[101,110,100]] (by decide) (g5.2.1)
  generalize ks l [[101,110,100]] (g5.2.1)=g6 at *
  obtain ⟨g6a,g6b⟩:=b
  refine Hs.parU p (fun h6=>?_) (fun he=>?_)
  rotate_left
  ·repeat' first
    | exact Hs.pure ⟨rfl,rfl,rfl,fun h=>absurd h he,trivial⟩
    | refine Hs.evb (jZ ..) ?_
  exact Hs.evb (jZ ..) (Hs.pure ⟨rfl,rfl,rfl,fun _=>rfl,trivial⟩)
 rw [if_neg k_let]
 refine Hs.evb (aBb (by simpa using k_let)) ?_
 refine Hs.isF rfl ?_
 by_cases k_if:bE l (i:Int) [105,102]=true
 ·rw [if_pos k_if]
  have hin:=aX k_if
  refine Hs.evb (aBY hl k_if) ?_
  refine Hs.isT rfl ?_
  have b:=nP hl n (i+1) (by omega)
  have p:=ihE (i+1) (by omega) (by omega)
  generalize fG l n (i+1)=g1 at *
  obtain ⟨g1a,g1b,g1c⟩:=b
  refine Hs.par p (fun h1 _=>?_) (fun a _ he=>?_)
  rotate_left
  ·repeat' first
    | exact Hs.pure ⟨rfl,rfl,rfl,fun h=>absurd h he,trivial⟩
    | refine Hs.evb (eX l _ _ he _ (by decide)) ?_
    | refine Hs.evb (kX l _ _ he) ?_
    | refine Hs.evb (jZ ..) ?_
  have g1c:=g1c h1
  have b:=eQ l [[116,104,101,110]] (g1.2.1) (by omega)
  have p:=aEL hl [[116,104,101,110]] (by decide) (g1.2.1)
  generalize ks l [[116,104,101,110]] (g1.2.1)=g2 at *
  obtain ⟨g2a,g2b⟩:=b
  refine Hs.parU p (fun h2=>?_) (fun he=>?_)
  rotate_left
  ·repeat' first
    | exact Hs.pure ⟨rfl,rfl,rfl,fun h=>absurd h he,trivial⟩
    | refine Hs.evb (eX l _ _ he _ (by decide)) ?_
    | refine Hs.evb (kX l _ _ he) ?_
    | refine Hs.evb (jZ ..) ?_
  have b:=nP hl n (g2.2.1) (by omega)
  have p:=ihE (g2.2.1) (by omega) (by omega)
  generalize fG l n (g2.2.1)=g3 at *
  obtain ⟨g3a,g3b,g3c⟩:=b
  refine Hs.par p (fun h3 _=>?_) (fun a _ he=>?_)
  rotate_left
  ·repeat' first
    | exact Hs.pure ⟨rfl,rfl,rfl,fun h=>absurd h he,trivial⟩
    | refine Hs.evb (eX l _ _ he _ (by decide)) ?_
    | refine Hs.evb (kX l _ _ he) ?_
    | refine Hs.evb (jZ ..) ?_
  have g3c:=g3c h3
  have b:=eQ l [[101,108,115,101]] (g3.2.1) (by omega)
  have p:=aEL hl [[101,108,115,101]] (by decide) (g3.2.1)
  generalize ks l [[101,108,115,101]] (g3.2.1)=g4 at *
  obtain ⟨g4a,g4b⟩:=b
  refine Hs.parU p (fun h4=>?_) (fun he=>?_)
  rotate_left
  ·repeat' first
    | exact Hs.pure ⟨rfl,rfl,rfl,fun h=>absurd h he,trivial⟩
    | refine Hs.evb (kX l _ _ he) ?_
    | refine Hs.evb (jZ ..) ?_
  have b:=nP hl n (g4.2.1) (by omega)
  have p:=ihE (g4.2.1) (by omega) (by omega)
  generalize fG l n (g4.2.1)=g5 at *
  obtain ⟨g5a,g5b,g5c⟩:=b
  refine Hs.par p (fun h5 _=>?_) (fun a _ he=>?_)
  rotate_left
  ·repeat' first
    | exact Hs.pure ⟨rfl,rfl,rfl,fun h=>absurd h he,trivial⟩
    | refine Hs.evb (jZ ..) ?_
  have g5c:=g5c h5
  exact Hs.evb (jZ ..) (Hs.pure ⟨rfl,rfl,rfl,fun _=>rfl,trivial⟩)
 rw [if_neg k_if]
 refine Hs.evb (aBb (by simpa using k_if)) ?_
 refine Hs.isF rfl ?_
 by_cases k_case:bE l (i:Int) [99,97,115,101]=true
 ·rw [if_pos k_case]
  have hin:=aX k_case
  refine Hs.evb (aBY hl k_case) ?_
  refine Hs.isT rfl ?_
  have b:=nP hl n (i+1) (by omega)
  have p:=ihE (i+1) (by omega) (by omega)
  generalize fG l n (i+1)=g1 at *
  obtain ⟨g1a,g1b,g1c⟩:=b
  refine Hs.par p (fun h1 _=>?_) (fun a _ he=>?_)
  rotate_left
  ·repeat' first
    | exact Hs.pure ⟨rfl,rfl,rfl,fun h=>absurd h he,trivial⟩
    | refine Hs.evb (eX l _ _ he _ (by decide)) ?_
    | refine Hs.evb (aEq l _ _ he) ?_
    | refine Hs.evb (jZ ..) ?_
    | refine Hs.opt (cJ (by simp; omega)) ?_
  have g1c:=g1c h1
  have b:=eQ l [[111,102]] (g1.2.1) (by omega)
  have p:=aEL hl [[111,102]] (by decide) (g1.2.1)
  generalize ks l [[111,102]] (g1.2.1)=g2 at *
  obtain ⟨g2a,g2b⟩:=b
  refine Hs.parU p (fun h2=>?_) (fun he=>?_)
  rotate_left
  ·repeat' first
    | exact Hs.pure ⟨rfl,rfl,rfl,fun h=>absurd h he,trivial⟩
    | refine Hs.evb (aEq l _ _ he) ?_
    | refine Hs.evb (jZ ..) ?_
    | refine Hs.opt (cJ (by simp; omega)) ?_
  have b:=aTb hl n [] (g2.2.1) (by omega)
  have p:=aX5 (ihA (g2.2.1) (by omega) (by omega) [] (by simp))
  generalize aB6 l n [] (g2.2.1)=g3 at *
  obtain ⟨g3a,g3b,g3c⟩:=b
  refine Hs.par p (fun h3 hs=>?_) (fun a hs he=>?_)
  rotate_left
  ·repeat' first
    | exact Hs.pure ⟨rfl,rfl,rfl,fun h=>absurd h he,trivial⟩
    | refine Hs.evb (jZ ..) ?_
    | refine Hs.opt (cJ (by simp; omega)) ?_
  refine Hs.opt (cJ (by simp; omega)) ?_
  exact Hs.evb (jZ ..) (Hs.pure ⟨rfl,rfl,rfl,fun _=>rfl,trivial⟩)
 rw [if_neg k_case]
 refine Hs.evb (aBb (by simpa using k_case)) ?_
 refine Hs.isF rfl ?_
 by_cases k_fold:bE l (i:Int) [102,111,108,100]=true
 ·rw [if_pos k_fold]
  have hin:=aX k_fold
  refine Hs.evb (aBY hl k_fold) ?_
  refine Hs.isT rfl ?_
  have b:=nP hl n (i+1) (by omega)
  have p:=ihE (i+1) (by omega) (by omega)
  generalize fG l n (i+1)=g1 at *
  obtain ⟨g1a,g1b,g1c⟩:=b
  refine Hs.par p (fun h1 _=>?_) (fun a _ he=>?_)
  rotate_left
  ·repeat' first
    | exact Hs.pure ⟨rfl,rfl,rfl,fun h=>absurd h he,trivial⟩
    | refine Hs.evb (eX l _ _ he _ (by decide)) ?_
    | refine Hs.evb (aHR l _ _ he) ?_
    | refine Hs.evb (aEq l _ _ he) ?_
    | refine Hs.evb (jZ ..) ?_
    | refine Hs.opt (cJ (by simp; omega)) ?_
  have g1c:=g1c h1
  have b:=eQ l [[116,111]] (g1.2.1) (by omega)
  have p:=aEL hl [[116,111]] (by decide) (g1.2.1)
  generalize ks l [[116,111]] (g1.2.1)=g2 at *
  obtain ⟨g2a,g2b⟩:=b
  refine Hs.parU p (fun h2=>?_) (fun he=>?_)
  rotate_left
  ·repeat' first
    | exact Hs.pure ⟨rfl,rfl,rfl,fun h=>absurd h he,trivial⟩
    | refine Hs.evb (eX l _ _ he _ (by decide)) ?_
    | refine Hs.evb (aHR l _ _ he) ?_
    | refine Hs.evb (aEq l _ _ he) ?_
    | refine Hs.evb (jZ ..) ?_
    | refine Hs.opt (cJ (by simp; omega)) ?_
  have b:=aGs hl (i:=g2.2.1) (by omega)
  have p:=bIJ hl (i:=g2.2.1) (by omega)
  generalize tyR l (g2.2.1)=g3 at *
  obtain ⟨g3a,g3b,g3c⟩:=b
  refine Hs.par p (fun h3 _=>?_) (fun a _ he=>?_)
  rotate_left
  ·repeat' first
    | exact Hs.pure ⟨rfl,rfl,rfl,fun h=>absurd h he,trivial⟩
    | refine Hs.evb (eX l _ _ he _ (by decide)) ?_
    | refine Hs.evb (aEq l _ _ he) ?_
    | refine Hs.evb (jZ ..) ?_
    | refine Hs.opt (cJ (by simp; omega)) ?_
  have g3c:=g3c h3
  have b:=eQ l [[111,102]] (g3.2.1) (by omega)
  have p:=aEL hl [[111,102]] (by decide) (g3.2.1)
  generalize ks l [[111,102]] (g3.2.1)=g4 at *
  obtain ⟨g4a,g4b⟩:=b
  refine Hs.parU p (fun h4=>?_) (fun he=>?_)
  rotate_left
  ·repeat' first
    | exact Hs.pure ⟨rfl,rfl,rfl,fun h=>absurd h he,trivial⟩
    | refine Hs.evb (aEq l _ _ he) ?_
    | refine Hs.evb (jZ ..) ?_
    | refine Hs.opt (cJ (by simp; omega)) ?_
  have b:=aTb hl n [] (g4.2.1) (by omega)
  have p:=aX5 (ihA (g4.2.1) (by omega) (by omega) [] (by simp))
  generalize aB6 l n [] (g4.2.1)=g5 at *
  obtain ⟨g5a,g5b,g5c⟩:=b
  refine Hs.par p (fun h5 hs=>?_) (fun a hs he=>?_)
  rotate_left
  ·repeat' first
    | exact Hs.pure ⟨rfl,rfl,rfl,fun h=>absurd h he,trivial⟩
    | refine Hs.evb (jZ ..) ?_
    | refine Hs.opt (cJ (by simp; omega)) ?_
  refine Hs.opt (cJ (by simp; omega)) ?_
  exact Hs.evb (jZ ..) (Hs.pure ⟨rfl,rfl,rfl,fun _=>rfl,trivial⟩)
 rw [if_neg k_fold]
 refine Hs.evb (aBb (by simpa using k_fold)) ?_
 refine Hs.isF rfl ?_
 obtain ⟨v,h1,h2⟩:=ihC i hi (by omega)
 obtain ⟨a,l',i',e'⟩:=v
 exact Hs.evb h1 (Hs.pure h2)
theorem bEP (ihE:IX l n 6 aW (fG l n)) (ihA:IA l n):IA l (n+1):=by
 intro i hi hn out ho
 rw [aB6]
 refine Hs.step (fun k=>by rw [dX]) ?_
 refine Hs.isT rfl ?_
 have b:=oZ (l:=l) (i:=i) (by omega)
 have sN:=rM (l:=l) (i:=i)
 have p:=bAm hl (i)
 generalize nmR l (i)=g1 at *
 obtain ⟨g1a,g1b⟩:=b
 refine Hs.par p (fun h1 _=>?_) (fun a _ he=>?_)
 rotate_left
 ·repeat' first
   | exact Hs.pure ⟨rfl,rfl,rfl,fun h=>absurd h he,by simp; omega⟩
   | refine Hs.evb (eX l _ _ he _ (by decide)) ?_
   | refine Hs.evb (aVS l _ _ he) ?_
   | refine Hs.evb (kX l _ _ he) ?_
   | refine Hs.opt (cJ (by simp; omega)) ?_
   | refine Hs.evb (mN l _ _ he _) ?_
   | refine Hs.isF rfl ?_
   | refine Hs.isT rfl ?_
 have sN:=sN h1
 have b:=oZ (l:=l) (i:=g1.2.1) (by omega)
 have sN:=rM (l:=l) (i:=g1.2.1)
 have p:=bAm hl (g1.2.1)
 generalize nmR l (g1.2.1)=g2 at *
 obtain ⟨g2a,g2b⟩:=b
 refine Hs.par p (fun h2 _=>?_) (fun a _ he=>?_)
 rotate_left
 ·repeat' first
   | exact Hs.pure ⟨rfl,rfl,rfl,fun h=>absurd h he,by simp; omega⟩
   | refine Hs.evb (eX l _ _ he _ (by decide)) ?_
   | refine Hs.evb (kX l _ _ he) ?_
   | refine Hs.opt (cJ (by simp; omega)) ?_
   | refine Hs.evb (mN l _ _ he _) ?_
   | refine Hs.isF rfl ?_
   | refine Hs.isT rfl ?_
 have sN:=sN h2
 have b:=eQ l [[61,62]] (g2.2.1) (by omega)
 have p:=aEL hl [[61,62]] (by decide) (g2.2.1)
 generalize ks l [[61,62]] (g2.2.1)=g3 at *
 obtain ⟨g3a,g3b⟩:=b
 refine Hs.parU p (fun h3=>?_) (fun he=>?_)
 rotate_left
 ·repeat' first
   | exact Hs.pure ⟨rfl,rfl,rfl,fun h=>absurd h he,by simp; omega⟩
   | refine Hs.evb (eX l _ _ he _ (by decide)) ?_
   | refine Hs.evb (kX l _ _ he) ?_
   | refine Hs.opt (cJ (by simp; omega)) ?_
   | refine Hs.evb (mN l _ _ he _) ?_
   | refine Hs.isF rfl ?_
   | refine Hs.isT rfl ?_
 have b:=nP hl n (g3.2.1) (by omega)
 have p:=ihE (g3.2.1) (by omega) (by omega)
 generalize fG l n (g3.2.1)=g4 at *
 obtain ⟨g4a,g4b,g4c⟩:=b
 refine Hs.par p (fun h4 _=>?_) (fun a _ he=>?_)
 rotate_left
 ·repeat' first
   | exact Hs.pure ⟨rfl,rfl,rfl,fun h=>absurd h he,by simp; omega⟩
   | refine Hs.evb (eX l _ _ he _ (by decide)) ?_
   | refine Hs.opt (cJ (by simp; omega)) ?_
   | refine Hs.evb (mN l _ _ he _) ?_
   | refine Hs.isF rfl ?_
   | refine Hs.isT rfl ?_
 have g4c:=g4c h4
 refine Hs.opt (cJ (by simp; omega)) ?_
 by_cases kb:bE l (g4.2.1:Int) [124]=true
 ·rw [if_pos kb]
  have hin:=aX kb
  refine Hs.evb (aBY hl kb) ?_
  refine Hs.isF rfl ?_
  exact ihA (g4.2.1+1) (by omega) (by omega) _ (by simp; omega)
 ·rw [if_neg kb]
  refine Hs.evb (aBb (by simpa using kb)) ?_
  refine Hs.isT rfl ?_
  have b:=eQ l [[101,110,100]] (g4.2.1) (by omega)
  have p:=aEL hl [[101,110,100]] (by decide) (g4.2.1)
  generalize ks l [[101,110,100]] (g4.2.1)=g5 at *
  obtain ⟨g5a,g5b⟩:=b
  refine Hs.parU p (fun h5=>?_) (fun he=>?_)
  rotate_left
  ·exact Hs.pure ⟨rfl,rfl,rfl,fun h=>absurd h he,by simp; omega⟩
  exact Hs.pure ⟨rfl,rfl,rfl,fun _=>rfl,by simp; omega⟩
theorem bG1 (ihS:IX l n 4 eK (aGd l n)):IX l (n+1) 5 gI (aRZ l (n+1)):=by
 intro i hi hn
 rw [aRZ]
 refine Hs.step (fun k=>by rw [gI]) ?_
 have b:=aQB hl n (i) (by omega)
 have p:=ihS (i) (by omega) (by omega)
 generalize aGd l n (i)=g1 at *
 obtain ⟨g1a,g1b,g1c⟩:=b
 refine Hs.par p (fun h1 _=>?_) (fun a _ he=>?_)
 rotate_left
 ·repeat' first
   | exact Hs.pure ⟨rfl,rfl,rfl,fun h=>absurd h he,trivial⟩
   | refine Hs.evb (opX ..) ?_
   | refine Hs.evb (mN l _ _ he _) ?_
   | refine Hs.evb (aYb l _ _ he) ?_
   | refine Hs.isF rfl ?_
   | refine Hs.isT rfl ?_
 have g1c:=g1c h1
 by_cases k4:bE l (g1.2.1:Int) [61]=true
 ·rw [if_pos k4]
  have hin:=aX k4
  refine Hs.evb (aBY hl k4) ?_
  refine Hs.isT rfl ?_
  have b:=aQB hl n (g1.2.1+1) (by omega)
  have p:=ihS (g1.2.1+1) (by omega) (by omega)
  generalize aGd l n (g1.2.1+1)=g2 at *
  obtain ⟨g2a,g2b,g2c⟩:=b
  refine Hs.par p (fun h2 _=>?_) (fun a _ he=>?_)
  rotate_left
  ·repeat' first
    | exact Hs.pure ⟨rfl,rfl,rfl,fun h=>absurd h he,trivial⟩
    | refine Hs.evb (opX ..) ?_
  have g2c:=g2c h2
  exact Hs.evb (opX ..) (Hs.pure ⟨rfl,rfl,rfl,fun _=>rfl,trivial⟩)
 rw [if_neg k4]
 refine Hs.evb (aBb (by simpa using k4)) ?_
 refine Hs.isF rfl ?_
 by_cases k5:bE l (g1.2.1:Int) [60]=true
 ·rw [if_pos k5]
  have hin:=aX k5
  refine Hs.evb (aBY hl k5) ?_
  refine Hs.isT rfl ?_
  have b:=aQB hl n (g1.2.1+1) (by omega)
  have p:=ihS (g1.2.1+1) (by omega) (by omega)
  generalize aGd l n (g1.2.1+1)=g2 at *
  obtain ⟨g2a,g2b,g2c⟩:=b
  refine Hs.par p (fun h2 _=>?_) (fun a _ he=>?_)
  rotate_left
  ·repeat' first
    | exact Hs.pure ⟨rfl,rfl,rfl,fun h=>absurd h he,trivial⟩
    | refine Hs.evb (opX ..) ?_
  have g2c:=g2c h2
  exact Hs.evb (opX ..) (Hs.pure ⟨rfl,rfl,rfl,fun _=>rfl,trivial⟩)
 rw [if_neg k5]
 refine Hs.evb (aBb (by simpa using k5)) ?_
 refine Hs.isF rfl ?_
 exact Hs.pure ⟨rfl,rfl,rfl,fun _=>rfl,trivial⟩
theorem bHX (ihT:IX l n 3 dO (xR l n)) (ihL:IL l n (fun K=>bH K [43,45] [1,2]) (aDZ l n)):IX l (n+1) 4 eK (aGd l (n+1)):=by
 intro i hi hn
 refine Hs.step (fun k=>by rw [eK]) ?_
 suffices h:Hs (fun K=>kE K l (i:Int) 0 [43,45] [1,2]) (QS l TT (aGd l (n+1) i)) by
  obtain ⟨⟨a,l',i',e'⟩,h1,h2⟩:=h
  exact Hs.evb h1 (Hs.pure h2)
 rw [aGd]
 refine Hs.step (fun k=>by rw [kE]) ?_
 have b:=aNk hl n (i) (by omega)
 have p:=ihT (i) (by omega) (by omega)
 generalize xR l n (i)=g1 at *
 obtain ⟨g1a,g1b,g1c⟩:=b
 refine Hs.par p (fun h1 _=>?_) (fun a _ he=>?_)
 rotate_left
 ·repeat' first
   | exact Hs.pure ⟨rfl,rfl,rfl,fun h=>absurd h he,trivial⟩
   | exact Hs.ev (aPl l _ _ he _) ⟨rfl,rfl,rfl,fun h=>absurd h he,trivial⟩
 have g1c:=g1c h1
 exact ihL g1.2.1 (by omega) (by omega) _
theorem bFO (ihT:IX l n 3 dO (xR l n)) (ihL:IL l n (fun K=>bH K [43,45] [1,2]) (aDZ l n)):IL l (n+1) (fun K=>bH K [43,45] [1,2]) (aDZ l (n+1)):=by
 intro i hi hn a
 rw [aDZ]
 show Hs (fun K=>bH K [43,45] [1,2] a l (i:Int) 0) _
 refine Hs.step (fun k=>by rw [bH]) ?_
 refine Hs.step (fun k=>by rw [cM]) ?_
 refine Hs.d (fun _=>?_) (fun h=>absurd (by decide) h)
 refine Hs.opt (a:=[43]) rfl ?_
 by_cases k0:bE l (i:Int) [43]=true
 ·rw [if_pos k0]
  have hin:=aX k0
  refine Hs.evb (aBY hl k0) ?_
  refine Hs.isF rfl ?_
  refine Hs.d (fun h=>absurd h (by decide)) (fun _=>?_)
  refine Hs.opt (a:=1) rfl ?_
  have b:=aNk hl n (i+1) (by omega)
  have p:=ihT (i+1) (by omega) (by omega)
  generalize xR l n (i+1)=g1 at *
  obtain ⟨g1a,g1b,g1c⟩:=b
  refine Hs.par p (fun h1 _=>?_) (fun a _ he=>?_)
  rotate_left
  ·repeat' first
    | exact Hs.pure ⟨rfl,rfl,rfl,fun h=>absurd h he,trivial⟩
    | refine Hs.evb (opX ..) ?_
    | exact Hs.ev (aPl l _ _ he _) ⟨rfl,rfl,rfl,fun h=>absurd h he,trivial⟩
  have g1c:=g1c h1
  refine Hs.evb (opX ..) ?_
  exact ihL g1.2.1 (by omega) (by omega) _
 rw [if_neg k0]
 refine Hs.evb (aBb (by simpa using k0)) ?_
 refine Hs.isT rfl ?_
 refine Hs.step (fun k=>by rw [cM]) ?_
 refine Hs.d (fun _=>?_) (fun h=>absurd (by decide) h)
 refine Hs.opt (a:=[45]) rfl ?_
 by_cases k1:bE l (i:Int) [45]=true
 ·rw [if_pos k1]
  have hin:=aX k1
  refine Hs.evb (aBY hl k1) ?_
  refine Hs.isF rfl ?_
  refine Hs.d (fun h=>absurd h (by decide)) (fun _=>?_)
  refine Hs.opt (a:=2) rfl ?_
  have b:=aNk hl n (i+1) (by omega)
  have p:=ihT (i+1) (by omega) (by omega)
  generalize xR l n (i+1)=g1 at *
  obtain ⟨g1a,g1b,g1c⟩:=b
  refine Hs.par p (fun h1 _=>?_) (fun a _ he=>?_)
  rotate_left
  ·repeat' first
    | exact Hs.pure ⟨rfl,rfl,rfl,fun h=>absurd h he,trivial⟩
    | refine Hs.evb (opX ..) ?_
    | exact Hs.ev (aPl l _ _ he _) ⟨rfl,rfl,rfl,fun h=>absurd h he,trivial⟩
  have g1c:=g1c h1
  refine Hs.evb (opX ..) ?_
  exact ihL g1.2.1 (by omega) (by omega) _
 rw [if_neg k1]
 refine Hs.evb (aBb (by simpa using k1)) ?_
 refine Hs.isT rfl ?_
 refine Hs.step (fun k=>by rw [cM]) ?_
 refine Hs.d (fun h=>absurd h (by decide)) (fun _=>?_)
 refine Hs.d (fun _=>?_) (fun h=>absurd (by decide) h)
 exact Hs.pure ⟨rfl,rfl,rfl,fun _=>rfl,trivial⟩
theorem bFD (ihP:IX l n 2 dZ (aJH l n)) (ihL:IL l n (fun K=>bB K [42] [3]) (aAe l n)):IX l (n+1) 3 dO (xR l (n+1)):=by
 intro i hi hn
 refine Hs.step (fun k=>by rw [dO]) ?_
 suffices h:Hs (fun K=>iK K l (i:Int) 0 [42] [3]) (QS l TT (xR l (n+1) i)) by
  obtain ⟨⟨a,l',i',e'⟩,h1,h2⟩:=h
  exact Hs.evb h1 (Hs.pure h2)
 rw [xR]
 refine Hs.step (fun k=>by rw [iK]) ?_
 have b:=aVu hl n (i) (by omega)
 have p:=ihP (i) (by omega) (by omega)
 generalize aJH l n (i)=g1 at *
 obtain ⟨g1a,g1b,g1c⟩:=b
 refine Hs.par p (fun h1 _=>?_) (fun a _ he=>?_)
 rotate_left
 ·repeat' first
   | exact Hs.pure ⟨rfl,rfl,rfl,fun h=>absurd h he,trivial⟩
   | exact Hs.ev (aR4 l _ _ he _) ⟨rfl,rfl,rfl,fun h=>absurd h he,trivial⟩
 have g1c:=g1c h1
 exact ihL g1.2.1 (by omega) (by omega) _
theorem bDJ (ihP:IX l n 2 dZ (aJH l n)) (ihL:IL l n (fun K=>bB K [42] [3]) (aAe l n)):IL l (n+1) (fun K=>bB K [42] [3]) (aAe l (n+1)):=by
 intro i hi hn a
 rw [aAe]
 show Hs (fun K=>bB K [42] [3] a l (i:Int) 0) _
 refine Hs.step (fun k=>by rw [bB]) ?_
 refine Hs.step (fun k=>by rw [dR]) ?_
 refine Hs.d (fun _=>?_) (fun h=>absurd (by decide) h)
 refine Hs.opt (a:=[42]) rfl ?_
 by_cases k0:bE l (i:Int) [42]=true
 ·rw [if_pos k0]
  have hin:=aX k0
  refine Hs.evb (aBY hl k0) ?_
  refine Hs.isF rfl ?_
  refine Hs.d (fun h=>absurd h (by decide)) (fun _=>?_)
  refine Hs.opt (a:=3) rfl ?_
  have b:=aVu hl n (i+1) (by omega)
  have p:=ihP (i+1) (by omega) (by omega)
  generalize aJH l n (i+1)=g1 at *
  obtain ⟨g1a,g1b,g1c⟩:=b
  refine Hs.par p (fun h1 _=>?_) (fun a _ he=>?_)
  rotate_left
  ·repeat' first
    | exact Hs.pure ⟨rfl,rfl,rfl,fun h=>absurd h he,trivial⟩
    | refine Hs.evb (opX ..) ?_
    | exact Hs.ev (aR4 l _ _ he _) ⟨rfl,rfl,rfl,fun h=>absurd h he,trivial⟩
  have g1c:=g1c h1
  refine Hs.evb (opX ..) ?_
  exact ihL g1.2.1 (by omega) (by omega) _
 rw [if_neg k0]
 refine Hs.evb (aBb (by simpa using k0)) ?_
 refine Hs.isT rfl ?_
 refine Hs.step (fun k=>by rw [dR]) ?_
 refine Hs.d (fun h=>absurd h (by decide)) (fun _=>?_)
 refine Hs.d (fun _=>?_) (fun h=>absurd (by decide) h)
 exact Hs.pure ⟨rfl,rfl,rfl,fun _=>rfl,trivial⟩
theorem bGD (ihO:IX l n 1 cC (pQ l n)) (ihL:IL l n cZ (aFp l n)):IX l (n+1) 2 dZ (aJH l (n+1)):=by
 intro i hi hn
 rw [aJH]
 refine Hs.step (fun k=>by rw [dZ]) ?_
 have b:=aIK hl n (i) (by omega)
 have p:=ihO (i) (by omega) (by omega)
 generalize pQ l n (i)=g1 at *
 obtain ⟨g1a,g1b,g1c⟩:=b
 refine Hs.par p (fun h1 _=>?_) (fun a _ he=>?_)
 rotate_left
 ·repeat' first
   | exact Hs.pure ⟨rfl,rfl,rfl,fun h=>absurd h he,trivial⟩
   | exact Hs.ev (aPX l _ _ he _) ⟨rfl,rfl,rfl,fun h=>absurd h he,trivial⟩
 have g1c:=g1c h1
 exact ihL g1.2.1 (by omega) (by omega) _
theorem bFB (ihO:IX l n 1 cC (pQ l n)) (ihL:IL l n cZ (aFp l n)):IL l (n+1) cZ (aFp l (n+1)):=by
 intro i hi hn a
 rw [aFp]
 refine Hs.step (fun k=>by rw [cZ]) ?_
 refine Hs.evb (bAx hl hi) ?_
 by_cases k0:stS l i=true
 ·rw [if_pos k0]
  have hin:=aYE k0
  refine Hs.isT k0 ?_
  have b:=aIK hl n (i) (by omega)
  have p:=ihO (i) (by omega) (by omega)
  generalize pQ l n (i)=g1 at *
  obtain ⟨g1a,g1b,g1c⟩:=b
  refine Hs.par p (fun h1 _=>?_) (fun a _ he=>?_)
  rotate_left
  ·repeat' first
    | exact Hs.pure ⟨rfl,rfl,rfl,fun h=>absurd h he,trivial⟩
    | refine Hs.evb (jZ ..) ?_
    | exact Hs.ev (aPX l _ _ he _) ⟨rfl,rfl,rfl,fun h=>absurd h he,trivial⟩
  have g1c:=g1c h1
  refine Hs.evb (jZ ..) ?_
  exact ihL g1.2.1 (by omega) (by omega) _
 rw [if_neg k0]
 refine Hs.isF (by simpa using k0) ?_
 exact Hs.pure ⟨rfl,rfl,rfl,fun _=>rfl,trivial⟩
theorem bFn (ihO:IX l n 1 cC (pQ l n)) (ihE:IX l n 6 aW (fG l n)):IX l (n+1) 1 cC (pQ l (n+1)):=by
 intro i hi hn
 rw [pQ]
 refine Hs.step (fun k=>by rw [cC]) ?_
 refine Hs.evb (bAx hl hi) ?_
 by_cases k0:stS l i=true
 ·rw [if_pos k0]
  have hin:=aYE k0
  have hw:=wr1 (i:=i) (by omega)
  refine Hs.isF (by rw [k0]; rfl) ?_
  obtain ⟨k,_,hg,hk⟩:=aFa (l:=l) (i:=(i:Int)) (by omega)
  rw [hk]
  refine Hs.opt hg ?_
  simp only
  refine Hs.d (fun c=>?_) (fun c0=>?_)
  ·rw [if_pos c]; exact Hs.pure ⟨rfl,hw,rfl,fun _=>rfl,trivial⟩
  rw [if_neg c0]
  refine Hs.d (fun c=>?_) (fun c1=>?_)
  ·rw [if_pos c]; exact Hs.evb (jZ ..) (Hs.pure ⟨rfl,hw,rfl,fun _=>rfl,trivial⟩)
  rw [if_neg c1]
  refine Hs.d (fun c=>?_) (fun c2=>?_)
  ·rw [if_pos c]; exact Hs.pure ⟨rfl,hw,rfl,fun _=>rfl,trivial⟩
  rw [if_neg c2]
  refine Hs.d (fun c=>?_) (fun c3=>?_)
  ·rw [if_pos c]; exact Hs.evb (jZ ..) (Hs.pure ⟨rfl,hw,rfl,fun _=>rfl,trivial⟩)
  rw [if_neg c3]
  refine Hs.d (fun c=>?_) (fun c4=>?_)
  ·rw [if_pos c,hw]
   have b:=aIK hl n (i+1) (by omega)
   have p:=ihO (i+1) (by omega) (by omega)
   generalize pQ l n (i+1)=g1 at *
   obtain ⟨g1a,g1b,g1c⟩:=b
   refine Hs.par p (fun h1 _=>?_) (fun a _ he=>?_)
   rotate_left
   ·repeat' first
     | exact Hs.pure ⟨rfl,rfl,rfl,fun h=>absurd h he,trivial⟩
     | refine Hs.evb (jZ ..) ?_
   have g1c:=g1c h1
   exact Hs.evb (jZ ..) (Hs.pure ⟨rfl,rfl,rfl,fun _=>rfl,trivial⟩)
  rw [if_neg c4]
  refine Hs.d (fun c=>?_) (fun c5=>?_)
  ·rw [if_pos c,hw]
   have b:=aIK hl n (i+1) (by omega)
   have p:=ihO (i+1) (by omega) (by omega)
   generalize pQ l n (i+1)=g1 at *
   obtain ⟨g1a,g1b,g1c⟩:=b
   refine Hs.par p (fun h1 _=>?_) (fun a _ he=>?_)
   rotate_left
   ·repeat' first
     | exact Hs.pure ⟨rfl,rfl,rfl,fun h=>absurd h he,trivial⟩
     | refine Hs.evb (jZ ..) ?_
   have g1c:=g1c h1
   exact Hs.evb (jZ ..) (Hs.pure ⟨rfl,rfl,rfl,fun _=>rfl,trivial⟩)
  rw [if_neg c5]
  rw [hw]
  refine Hs.step (fun k=>by rw [mO]) ?_
  by_cases k1:bE l ((i+1:Nat):Int) [41]=true
  ·rw [if_pos k1]
   have hin:=aX k1
   refine Hs.evb (aBY hl k1) ?_
   refine Hs.isT rfl ?_
   exact Hs.evb (jZ ..) (Hs.pure ⟨rfl,rfl,rfl,fun _=>rfl,trivial⟩)
  rw [if_neg k1]
  refine Hs.evb (aBb (by simpa using k1)) ?_
  refine Hs.isF rfl ?_
  have b:=nP hl n (i+1) (by omega)
  have p:=ihE (i+1) (by omega) (by omega)
  generalize fG l n (i+1)=g1 at *
  obtain ⟨g1a,g1b,g1c⟩:=b
  refine Hs.par p (fun h1 _=>?_) (fun a _ he=>?_)
  rotate_left
  ·repeat' first
    | exact Hs.pure ⟨rfl,rfl,rfl,fun h=>absurd h he,trivial⟩
    | refine Hs.evb (eX l _ _ he _ (by decide)) ?_
    | refine Hs.evb (jZ ..) ?_
    | refine Hs.evb (mN l _ _ he _) ?_
    | refine Hs.isF rfl ?_
    | refine Hs.isT rfl ?_
  have g1c:=g1c h1
  by_cases k2:bE l (g1.2.1:Int) [44]=true
  ·rw [if_pos k2]
   have hin:=aX k2
   refine Hs.evb (aBY hl k2) ?_
   refine Hs.isT rfl ?_
   have b:=nP hl n (g1.2.1+1) (by omega)
   have p:=ihE (g1.2.1+1) (by omega) (by omega)
   generalize fG l n (g1.2.1+1)=g2 at *
   obtain ⟨g2a,g2b,g2c⟩:=b
   refine Hs.par p (fun h2 _=>?_) (fun a _ he=>?_)
   rotate_left
   ·repeat' first
     | exact Hs.pure ⟨rfl,rfl,rfl,fun h=>absurd h he,trivial⟩
     | refine Hs.evb (eX l _ _ he _ (by decide)) ?_
     | refine Hs.evb (jZ ..) ?_
   have g2c:=g2c h2
   refine Hs.evb (jZ ..) ?_
   have b:=eQ l [[41]] (g2.2.1) (by omega)
   have p:=aEL hl [[41]] (by decide) (g2.2.1)
   generalize ks l [[41]] (g2.2.1)=g3 at *
   obtain ⟨g3a,g3b⟩:=b
   refine Hs.parU p (fun h3=>?_) (fun he=>?_)
   rotate_left
   ·exact Hs.pure ⟨rfl,rfl,rfl,fun h=>absurd h he,trivial⟩
   exact Hs.pure ⟨rfl,rfl,rfl,fun _=>rfl,trivial⟩
  rw [if_neg k2]
  refine Hs.evb (aBb (by simpa using k2)) ?_
  refine Hs.isF rfl ?_
  have b:=eQ l [[41]] (g1.2.1) (by omega)
  have p:=aEL hl [[41]] (by decide) (g1.2.1)
  generalize ks l [[41]] (g1.2.1)=g2 at *
  obtain ⟨g2a,g2b⟩:=b
  refine Hs.parU p (fun h2=>?_) (fun he=>?_)
  rotate_left
  ·exact Hs.pure ⟨rfl,rfl,rfl,fun h=>absurd h he,trivial⟩
  exact Hs.pure ⟨rfl,rfl,rfl,fun _=>rfl,trivial⟩
 ·rw [if_neg k0]
  refine Hs.isT (by simpa using k0) ?_
  refine Hs.evb (aW7 l _ _) ?_
  exact Hs.pure ⟨rfl,rfl,rfl,fun _=>rfl,trivial⟩
omit hl in
theorem aCT {c:Nat} {f:Nat→List aF→Int→Int→Option (Tr×List aF×Int×Int)} {g:Nat→RT} (hc:0<c):IX l 0 c f g:=fun j _ h=>by omega
omit hl in
theorem aOO {f:Nat→Tr→List aF→Int→Int→Option (Tr×List aF×Int×Int)} {g:Tr→Nat→RT}:IL l 0 f g:=fun j _ h=>by omega
theorem bHH:∀ n,IX l n 6 aW (fG l n)∧IA l n∧IX l n 5 gI (aRZ l n)∧IX l n 4 eK (aGd l n)∧IL l n (fun K=>bH K [43,45] [1,2]) (aDZ l n) ∧
  IX l n 3 dO (xR l n)∧IL l n (fun K=>bB K [42] [3]) (aAe l n)∧IX l n 2 dZ (aJH l n)∧IL l n cZ (aFp l n)∧IX l n 1 cC (pQ l n):=by
 intro n
 induction n with
 | zero=>exact ⟨aCT (by decide),fun j _ h=>by omega,aCT (by decide),aCT (by decide),aOO,aCT (by decide),aOO,aCT (by decide),aOO,aCT (by decide)⟩
 | succ n ih =>
  obtain ⟨i1,i2,i3,i4,i5,i6,i7,i8,i9,i10⟩:=ih
  exact ⟨bFA hl i1 i2 i3,bEP hl i1 i2,bG1 hl i4,bHX hl i6 i5,bFO hl i6 i5,bFD hl i8 i7,bDJ hl i8 i7,bGD hl i10 i9,bFB hl i10 i9,bFn hl i10 i1⟩
end
end Go.Proofs.YtjhfgiieicloeaaGreatDoor

/- The program's parser of expressions, at any place. -/
namespace Go.Proofs.YtjhfgiieicloeaaGreatDoor
open Go Go.Am Go.Sx
def bIT (g:RT):Tr×Int×Int:=(if g.2.2=0 then g.1 else .nil,((g.2.1:Nat):Int),g.2.2)
section
variable {l:List aF} (hl:l.length≤20000)
include hl
theorem bHj {n i:Nat} (hi:i≤l.length) (hn:8 * (l.length - i)+6≤n):Ev (fun K=>aE6 K l (i:Int)) (bIT (fG l n i)):=by
 obtain ⟨⟨a,l',i',e'⟩,h1,h2,h3,h4,h5,_⟩:=(bHH hl n).1 i hi hn
 simp only at h2 h3 h4 h5
 subst h2 h3 h4
 refine Ev.congr (f:=fun K=>_) ?_ (fun k=>by rw [aE6])
 refine Ev.dF (by omega) ?_
 refine Ev.dF (by omega) ?_
 refine Ev.bind h1 ?_
 unfold bIT
 refine Ev.n (fun he=>Ev.pure' (by rw [if_neg he])) (fun he=>Ev.pure' (by rw [if_pos he,he,h5 he]))
end
end Go.Proofs.YtjhfgiieicloeaaGreatDoor

