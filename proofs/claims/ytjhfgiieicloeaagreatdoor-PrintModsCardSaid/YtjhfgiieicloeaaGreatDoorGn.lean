/- Joined texts: M3, M5p. -/
import Derived.Test.YtjhfgiieicloeaaGreatDoorGm
/- The program's parser of modules comes to its plain functions. Printed by gen8/m3.py. -/
namespace Go.Proofs.YtjhfgiieicloeaaGreatDoor
open Go Go.Am Go.Sx
abbrev TL:List Tr→Prop:=fun _=>True
abbrev NE:Tr→Prop:=fun t=>t≠.nil
theorem bB4 {α β γ:Type} {d:γ} {d':β} {r:α×Nat×Int} {f:α→Nat→β×Nat×Int} {g:β→Nat→γ×Nat×Int}:bnd d (bnd d' r f) g=bnd d r fun a j=>bnd d (f a j) g:=by
 by_cases h:r.2.2=0
 ·simp [bnd,h]
 ·simp [bnd,h]
def bCn (l:List aI) (top:Bool) (i:Nat):Bool:=aB7 l i [yW,fL,mM,aAH,aAZ,aAD] || (top && aB7 l i [aJ3,aKb])
def bDy (l:List aI) (i:Nat):Bool:=aB7 l i [yW,fL,mM,aAH,aAD,aBF]
def ID (l:List aI) (n:Nat):Prop:=∀ j,j≤l.length→8 * (l.length - j)+2≤n→∀ top out,out.length≤j→Hs (fun K=>(dW K l (j:Int) 0 top).bind fun (v1,v2,v3,v4)=>bJ K top out v1 v2 v3 v4) (QS l TL (aBq l n top out j))
def bCP (l:List aI) (r:LT):RT:=bnd .nil r fun k i=>bnd .nil (ks l [aHe] i) fun _ i=>(.node 50 0 [] [] k,i,0)
def IS (l:List aI) (n:Nat):Prop:=∀ j,j≤l.length→8 * (l.length - j)+2≤n→∀ out,out.length≤j→Hs (fun K=>(eI K l (j:Int) 0).bind fun (v1,v2,v3,v4)=>bT K v1 v2 v3 v4 50 0 [] [] out) (QS l TT (bCP l (aDD l n out j)))
def IP (l:List aI) (n:Nat):Prop:=∀ j,j≤l.length→8 * (l.length - j)+1≤n→bDy l j=true→Hs (fun K=>eI K l (j:Int) 0) (QS l NE (aCd l n j))
def IE (l:List aI) (n:Nat):Prop:=∀ j,j≤l.length→8 * (l.length - j)+1≤n→∀ top,bCn l top j=true→Hs (fun K=>dW K l (j:Int) 0 top) (QS l NE (aA4 l n top j))
theorem bH5 {l:List aI} {i:Int} {top:Bool} {Q:List Tr×List aI×Int×Int→Prop} (h:Hs (fun K=>(dW K l i 0 top).bind fun (v1,v2,v3,v4)=>bJ K top [] v1 v2 v3 v4) Q):Hs (fun K=>kH K l i 0 top) Q :=
 Hs.step (fun k=>by rw [kH]) h
theorem bFz {l:List aI} {i:Nat} (h:bDy l i=false):Ev (fun K=>eI K l (i:Int) 0) (.nil,l,(i:Int),0):=by
 simp only [bDy,aB7,List.any_cons,List.any_nil,Bool.or_eq_false_iff] at h
 obtain ⟨h1,h2,h3,h4,h5,h6,_⟩:=h
 refine Ev.step (fun k=>by rw [eI]) ?_
 refine Ev.bind (gG h1) (Ev.isF rfl ?_)
 refine Ev.bind (gG h2) (Ev.isF rfl ?_)
 refine Ev.bind (gG h3) (Ev.isF rfl ?_)
 refine Ev.bind (gG h4) (Ev.isF rfl ?_)
 refine Ev.bind (gG h5) (Ev.isF rfl ?_)
 refine Ev.bind (gG h6) (Ev.isF rfl ?_)
 exact Ev.pure
theorem bF1 {l:List aI} {i:Nat} {top:Bool} (h:bCn l top i=false):Ev (fun K=>dW K l (i:Int) 0 top) (.nil,l,(i:Int),0):=by
 simp only [bCn,aB7,List.any_cons,List.any_nil,Bool.or_eq_false_iff] at h
 obtain ⟨⟨h1,h2,h3,h4,h5,h6,_⟩,h7⟩:=h
 refine Ev.step (fun k=>by rw [dW]) ?_
 refine Ev.bind (gG h1) (Ev.isF rfl ?_)
 refine Ev.bind (gG h2) (Ev.isF rfl ?_)
 refine Ev.bind (gG h3) (Ev.isF rfl ?_)
 refine Ev.bind (gG h4) (Ev.isF rfl ?_)
 refine Ev.bind (gG h5) (Ev.isF rfl ?_)
 refine Ev.bind (gG h6) (Ev.isF rfl ?_)
 cases top with
 | false=>exact Ev.isF rfl Ev.pure
 | true =>
  simp only [Bool.true_and,Bool.or_eq_false_iff] at h7
  obtain ⟨h7,h8,_⟩:=h7
  refine Ev.isT rfl ?_
  refine Ev.bind (gG h7) (Ev.isF rfl ?_)
  refine Ev.bind (gG h8) (Ev.isF rfl ?_)
  exact Ev.pure
section
variable {l:List aI} (hl:l.length≤20000)
include hl
theorem bFJ {n i:Nat} (hi:i≤l.length):Pz l i (2 * i) (yP l n i):=(bAt hl n i hi).1
theorem bJS {n i:Nat} (hi:i≤l.length):Pz l i (2 * i) (aDU l n i):=(bAt hl n i hi).2.2.1
theorem bCc {n i:Nat} (hi:i≤l.length):Pz l i (2 * i) (rL l n i):=(bAt hl n i hi).2.2.2.1
theorem bJX {n i:Nat} (hi:i≤l.length):Pz l i (2 * i) (aGF l n i):=(bAt hl n i hi).2.2.2.2.2.1
theorem bJd {n i:Nat} (hi:i≤l.length):Pz l i (2 * i) (aCd l n i):=(bAt hl n i hi).2.2.2.2.2.2.2.1
theorem bJq {n i:Nat} {top:Bool} {out:List Tr} (hi:i≤l.length):Pr l i out (aBq l n top out i):=(bAt hl n i hi).2.2.2.2.2.2.2.2.1 top out
theorem bJU {n i:Nat} {top:Bool} (hi:i≤l.length):Pz l i (2 * i) (aA4 l n top i):=(bAt hl n i hi).2.2.2.2.2.2.2.2.2 top
variable {n:Nat}
theorem bCG (ihS:IX l n 2 cF (rL l n)) {s:List UInt8} {i:Nat} (hi:i≤l.length) (hn:8 * (l.length - i)+2≤n):Hs (fun K=>dC K l (i:Int) 0 s) (QS l TT (bhd .nil l s (fun j=>rL l n j) i)) :=
 aSI hl hi (fun _ h=>Hs.step (fun k=>by rw [dC]) h) (fun j hj _=>ihS j hj (by omega)) (fun j e he=>aYM l j e he)
theorem bGf (ihM:IX l n 2 dN (yP l n)) {s:List UInt8} {i:Nat} (hi:i≤l.length) (hn:8 * (l.length - i)+2≤n):Hs (fun K=>dR K l (i:Int) 0 s) (QS l TT (bhd .nil l s (fun j=>yP l n j) i)) :=
 aSI hl hi (fun _ h=>Hs.step (fun k=>by rw [dR]) h) (fun j hj _=>ihM j hj (by omega)) (fun j e he=>aX3 l j e he)
theorem bIl (ihP:IX l n 1 fU (aDU l n)) (ihML:IL l n cV (aD3 l n)):IX l (n+1) 2 dN (yP l (n+1)):=by
 intro i hi hn
 rw [yP]
 refine Hs.step (fun k=>by rw [dN]) ?_
 have b:=bJS hl (n:=n) (i:=i) (by omega)
 have p:=ihP (i) (by omega) (by omega)
 generalize aDU l n (i)=g1 at *
 obtain ⟨g1a,g1b,g1c⟩:=b
 refine Hs.par p (fun h1 _=>?_) (fun a _ he=>?_)
 rotate_left
 ·repeat' first
   | exact Hs.pure ⟨rfl,rfl,rfl,fun h=>absurd h he,trivial⟩
   | exact Hs.ev (aLU l _ _ he _) ⟨rfl,rfl,rfl,fun h=>absurd h he,trivial⟩
 have g1c:=g1c h1
 exact ihML g1.2.1 (by omega) (by omega) _
theorem bFa (ihS:IX l n 2 cF (rL l n)) (ihML:IL l n cV (aD3 l n)):IL l (n+1) cV (aD3 l (n+1)):=by
 intro i hi hn m
 rw [aD3]
 refine Hs.step (fun k=>by rw [cV]) ?_
 by_cases k0:bE l (i:Int) [58]=true
 ·rw [if_pos k0]
  have hin:=aX k0
  refine Hs.evb (pQ hl k0) ?_
  refine Hs.isT rfl ?_
  have b:=bCc hl (n:=n) (i:=i+1) (by omega)
  have p:=ihS (i+1) (by omega) (by omega)
  generalize rL l n (i+1)=g1 at *
  obtain ⟨g1a,g1b,g1c⟩:=b
  refine Hs.par p (fun h1 _=>?_) (fun a _ he=>?_)
  rotate_left
  ·repeat' first
    | exact Hs.pure ⟨rfl,rfl,rfl,fun h=>absurd h he,trivial⟩
    | exact Hs.ev (aLU l _ _ he _) ⟨rfl,rfl,rfl,fun h=>absurd h he,trivial⟩
  have g1c:=g1c h1
  exact ihML g1.2.1 (by omega) (by omega) _
 rw [if_neg k0]
 refine Hs.evb (gG (by simpa using k0)) ?_
 refine Hs.isF rfl ?_
 by_cases k1:bE l (i:Int) [58,62]=true
 ·rw [if_pos k1]
  have hin:=aX k1
  refine Hs.evb (pQ hl k1) ?_
  refine Hs.isT rfl ?_
  have b:=bCc hl (n:=n) (i:=i+1) (by omega)
  have p:=ihS (i+1) (by omega) (by omega)
  generalize rL l n (i+1)=g1 at *
  obtain ⟨g1a,g1b,g1c⟩:=b
  refine Hs.par p (fun h1 _=>?_) (fun a _ he=>?_)
  rotate_left
  ·repeat' first
    | exact Hs.pure ⟨rfl,rfl,rfl,fun h=>absurd h he,trivial⟩
    | exact Hs.ev (aLU l _ _ he _) ⟨rfl,rfl,rfl,fun h=>absurd h he,trivial⟩
  have g1c:=g1c h1
  exact ihML g1.2.1 (by omega) (by omega) _
 rw [if_neg k1]
 refine Hs.evb (gG (by simpa using k1)) ?_
 refine Hs.isF rfl ?_
 exact Hs.pure ⟨rfl,rfl,rfl,fun _=>rfl,trivial⟩
theorem bGX (ihB:IX l n 1 fQ (aGF l n)) (ihSL:IL l n dO (aGn l n)):IX l (n+1) 2 cF (rL l (n+1)):=by
 intro i hi hn
 rw [rL]
 refine Hs.step (fun k=>by rw [cF]) ?_
 have b:=bJX hl (n:=n) (i:=i) (by omega)
 have p:=ihB (i) (by omega) (by omega)
 generalize aGF l n (i)=g1 at *
 obtain ⟨g1a,g1b,g1c⟩:=b
 refine Hs.par p (fun h1 _=>?_) (fun a _ he=>?_)
 rotate_left
 ·repeat' first
   | exact Hs.pure ⟨rfl,rfl,rfl,fun h=>absurd h he,trivial⟩
   | exact Hs.ev (aEy l _ _ he _) ⟨rfl,rfl,rfl,fun h=>absurd h he,trivial⟩
 have g1c:=g1c h1
 exact ihSL g1.2.1 (by omega) (by omega) _
theorem bER (ihSL:IL l n dO (aGn l n)):IL l (n+1) dO (aGn l (n+1)):=by
 intro i hi hn m
 rw [aGn]
 refine Hs.step (fun k=>by rw [dO]) ?_
 by_cases k0:bE l (i:Int) aEY=true
 ·rw [if_pos k0]
  have hin:=aX k0
  refine Hs.evb (pQ hl k0) ?_
  refine Hs.isT rfl ?_
  have b:=eN l [fL] (i+1) (by omega)
  have p:=aHL hl [fL] (by decide) (i+1)
  generalize ks l [fL] (i+1)=g1 at *
  obtain ⟨g1a,g1b⟩:=b
  refine Hs.parU p (fun h1=>?_) (fun he=>?_)
  rotate_left
  ·repeat' first
    | exact Hs.pure ⟨rfl,rfl,rfl,fun h=>absurd h he,trivial⟩
    | refine Hs.evb (jH l _ _ he _ (by decide)) ?_
    | refine Hs.evb (aCv l _ _ he) ?_
    | refine Hs.evb (aFP l _ _ he) ?_
    | refine Hs.evb (iT ..) ?_
    | exact Hs.ev (aEy l _ _ he _) ⟨rfl,rfl,rfl,fun h=>absurd h he,trivial⟩
  have b:=aJx (l:=l) (i:=g1.2.1) (by omega)
  have sN:=aJK (l:=l) (i:=g1.2.1)
  have p:=aWl hl (g1.2.1)
  generalize lgR l (g1.2.1)=g2 at *
  obtain ⟨g2a,g2b⟩:=b
  refine Hs.par p (fun h2 _=>?_) (fun a _ he=>?_)
  rotate_left
  ·repeat' first
    | exact Hs.pure ⟨rfl,rfl,rfl,fun h=>absurd h he,trivial⟩
    | refine Hs.evb (jH l _ _ he _ (by decide)) ?_
    | refine Hs.evb (aFP l _ _ he) ?_
    | refine Hs.evb (iT ..) ?_
    | exact Hs.ev (aEy l _ _ he _) ⟨rfl,rfl,rfl,fun h=>absurd h he,trivial⟩
  have sN:=sN h2
  have b:=eN l [[61]] (g2.2.1) (by omega)
  have p:=aHL hl [[61]] (by decide) (g2.2.1)
  generalize ks l [[61]] (g2.2.1)=g3 at *
  obtain ⟨g3a,g3b⟩:=b
  refine Hs.parU p (fun h3=>?_) (fun he=>?_)
  rotate_left
  ·repeat' first
    | exact Hs.pure ⟨rfl,rfl,rfl,fun h=>absurd h he,trivial⟩
    | refine Hs.evb (aFP l _ _ he) ?_
    | refine Hs.evb (iT ..) ?_
    | exact Hs.ev (aEy l _ _ he _) ⟨rfl,rfl,rfl,fun h=>absurd h he,trivial⟩
  have b:=aGP hl (i:=g3.2.1) (by omega)
  have p:=bE0 hl (i:=g3.2.1) (by omega)
  generalize tyR l (g3.2.1)=g4 at *
  obtain ⟨g4a,g4b,g4c⟩:=b
  refine Hs.par p (fun h4 _=>?_) (fun a _ he=>?_)
  rotate_left
  ·repeat' first
    | exact Hs.pure ⟨rfl,rfl,rfl,fun h=>absurd h he,trivial⟩
    | refine Hs.evb (iT ..) ?_
    | exact Hs.ev (aEy l _ _ he _) ⟨rfl,rfl,rfl,fun h=>absurd h he,trivial⟩
  have g4c:=g4c h4
  refine Hs.evb (iT ..) ?_
  exact ihSL g4.2.1 (by omega) (by omega) _
 rw [if_neg k0]
 refine Hs.evb (gG (by simpa using k0)) ?_
 refine Hs.isF rfl ?_
 exact Hs.pure ⟨rfl,rfl,rfl,fun _=>rfl,trivial⟩
theorem bFZ (ihS:IS l n):IX l (n+1) 1 fQ (aGF l (n+1)):=by
 intro i hi hn
 rw [aGF]
 refine Hs.step (fun k=>by rw [fQ]) ?_
 by_cases k0:bE l (i:Int) kSg=true
 ·rw [if_pos k0]
  have hin:=aX k0
  refine Hs.evb (pQ hl k0) ?_
  refine Hs.isF rfl ?_
  refine Hs.evb (aJC ..) ?_
  exact ihS (i+1) (by omega) (by omega) [] (by simp)
 rw [if_neg k0]
 refine Hs.evb (gG (by simpa using k0)) ?_
 refine Hs.isT rfl ?_
 have b:=oK (l:=l) (i:=i) (by omega)
 have sN:=rN (l:=l) (i:=i)
 have p:=aJT hl (i)
 generalize nmR l (i)=g1 at *
 obtain ⟨g1a,g1b⟩:=b
 refine Hs.par p (fun h1 _=>?_) (fun a _ he=>?_)
 rotate_left
 ·repeat' first
   | exact Hs.pure ⟨rfl,rfl,rfl,fun h=>absurd h he,trivial⟩
   | refine Hs.evb (aJC ..) ?_
 have sN:=sN h1
 exact Hs.evb (aJC ..) (Hs.pure ⟨rfl,rfl,rfl,fun _=>rfl,trivial⟩)
theorem bCH (ihP:IP l n) (ihS:IS l n):IS l (n+1):=by
 intro i hi hn out ho
 rw [aDD]
 by_cases hb:bDy l i=true
 ·rw [if_pos (show aB7 l i [yW,fL,mM,aAH,aAD,aBF]=true from hb)]
  unfold bCP
  rw [bB4]
  have b:=bJd hl (n:=n) (i:=i) (by omega)
  have p:=ihP i (by omega) (by omega) hb
  generalize aCd l n i=g1 at *
  obtain ⟨g1a,g1b,g1c⟩:=b
  refine Hs.par p (fun h1 hne=>?_) (fun a _ he=>?_)
  ·have g1c:=g1c h1
   obtain ⟨t,j,e⟩:=g1
   cases t with
   | nil=>exact absurd rfl hne
   | node c m s s' kk =>
    refine Hs.step (F:=fun K=>bT K (.node c m s s' kk) l (j:Int) 0 50 0 [] [] out) (fun k=>by rw [bT]) ?_
    refine Hs.opt (cM (by simp; omega)) ?_
    exact ihS j (by omega) (by simp only at g1c; omega) _ (by simp only at g1c; simp; omega)
  ·show Hs (fun K=>bT K a l ((g1.2.1:Nat):Int) g1.2.2 50 0 [] [] out) _
   have tail:∀ out:List Tr,Hs (fun K=>bT K .nil l ((g1.2.1:Nat):Int) g1.2.2 50 0 [] [] out) (QS l TT ((.nil,g1.2.1,g1.2.2):RT)):=fun out=>by
    refine Hs.step (fun k=>by rw [bT]) ?_
    refine Hs.evb (jH l _ _ he _ (by decide)) ?_
    exact Hs.pure ⟨rfl,rfl,rfl,fun h=>absurd h he,trivial⟩
   cases a with
   | nil=>exact tail out
   | node c m s s' kk =>
    refine Hs.step (fun k=>by rw [bT]) ?_
    refine Hs.opt (cM (by simp; omega)) ?_
    refine Hs.evb (bBW l _ _ he) ?_
    exact tail _
 ·rw [if_neg (show ¬ aB7 l i [yW,fL,mM,aAH,aAD,aBF]=true from hb)]
  refine Hs.evb (bFz (by simpa using hb)) ?_
  refine Hs.step (F:=fun K=>bT K .nil l (i:Int) 0 50 0 [] [] out) (fun k=>by rw [bT]) ?_
  unfold bCP
  rw [aO]
  have b:=eN l [aHe] (i) (by omega)
  have p:=aHL hl [aHe] (by decide) (i)
  generalize ks l [aHe] (i)=g1 at *
  obtain ⟨g1a,g1b⟩:=b
  refine Hs.parU p (fun h1=>?_) (fun he=>?_)
  rotate_left
  ·exact Hs.pure ⟨rfl,rfl,rfl,fun h=>absurd h he,trivial⟩
  exact Hs.pure ⟨rfl,rfl,rfl,fun _=>rfl,trivial⟩
theorem bDz (ihE:IE l n) (ihD:ID l n):ID l (n+1):=by
 intro i hi hn top out ho
 rw [aBq]
 by_cases hb:bCn l top i=true
 ·rw [if_pos (show (aB7 l i [yW,fL,mM,aAH,aAZ,aAD] || (top && aB7 l i [aJ3,aKb]))=true from hb)]
  have b:=bJU hl (n:=n) (top:=top) (i:=i) (by omega)
  have p:=ihE i (by omega) (by omega) top hb
  generalize aA4 l n top i=g1 at *
  obtain ⟨g1a,g1b,g1c⟩:=b
  refine Hs.par p (fun h1 hne=>?_) (fun a _ he=>?_)
  ·have g1c:=g1c h1
   obtain ⟨t,j,e⟩:=g1
   cases t with
   | nil=>exact absurd rfl hne
   | node c m s s' kk =>
    refine Hs.step (F:=fun K=>bJ K top out (.node c m s s' kk) l (j:Int) 0) (fun k=>by rw [bJ]) ?_
    refine Hs.opt (cM (by simp; omega)) ?_
    exact ihD j (by omega) (by simp only at g1c; omega) _ _ (by simp only at g1c; simp; omega)
  ·show Hs (fun K=>bJ K top out a l ((g1.2.1:Nat):Int) g1.2.2) _
   have tail:∀ out:List Tr,Hs (fun K=>bJ K top out .nil l ((g1.2.1:Nat):Int) g1.2.2) (QS l TL (([],g1.2.1,g1.2.2):LT)):=fun out=>by
    refine Hs.step (fun k=>by rw [bJ]) ?_
    exact Hs.pure ⟨rfl,rfl,rfl,fun h=>absurd h he,trivial⟩
   cases a with
   | nil=>exact tail out
   | node c m s s' kk =>
    refine Hs.step (fun k=>by rw [bJ]) ?_
    refine Hs.opt (cM (by simp; omega)) ?_
    refine Hs.evb (bBP l _ _ he _) ?_
    exact tail _
 ·rw [if_neg (show ¬ (aB7 l i [yW,fL,mM,aAH,aAZ,aAD] || (top && aB7 l i [aJ3,aKb]))=true from hb)]
  refine Hs.evb (bF1 (by simpa using hb)) ?_
  refine Hs.step (F:=fun K=>bJ K top out .nil l (i:Int) 0) (fun k=>by rw [bJ]) ?_
  exact Hs.pure ⟨rfl,rfl,rfl,fun _=>rfl,trivial⟩
theorem bFM (ihM:IX l n 2 dN (yP l n)) (ihDs:ID l n):IX l (n+1) 1 fU (aDU l (n+1)):=by
 intro i hi hn
 rw [aDU]
 refine Hs.step (fun k=>by rw [fU]) ?_
 by_cases k0:bE l (i:Int) aLL=true
 ·rw [if_pos k0]
  have hin:=aX k0
  refine Hs.evb (pQ hl k0) ?_
  refine Hs.isT rfl ?_
  have b:=bJq hl (n:=n) (top:=false) (out:=[]) (i:=i+1) (by omega)
  have p:=bH5 (ihDs (i+1) (by omega) (by omega) false [] (by simp))
  generalize aBq l n false [] (i+1)=g1 at *
  obtain ⟨g1a,g1b,g1c⟩:=b
  refine Hs.par p (fun h1 _=>?_) (fun a _ he=>?_)
  rotate_left
  ·repeat' first
    | exact Hs.pure ⟨rfl,rfl,rfl,fun h=>absurd h he,trivial⟩
    | refine Hs.evb (jH l _ _ he _ (by decide)) ?_
    | refine Hs.evb (iT ..) ?_
  have g1c:=g1c h1
  have b:=eN l [aHe] (g1.2.1) (by omega)
  have p:=aHL hl [aHe] (by decide) (g1.2.1)
  generalize ks l [aHe] (g1.2.1)=g2 at *
  obtain ⟨g2a,g2b⟩:=b
  refine Hs.parU p (fun h2=>?_) (fun he=>?_)
  rotate_left
  ·repeat' first
    | exact Hs.pure ⟨rfl,rfl,rfl,fun h=>absurd h he,trivial⟩
    | refine Hs.evb (iT ..) ?_
  exact Hs.evb (iT ..) (Hs.pure ⟨rfl,rfl,rfl,fun _=>rfl,trivial⟩)
 rw [if_neg k0]
 refine Hs.evb (gG (by simpa using k0)) ?_
 refine Hs.isF rfl ?_
 by_cases k1:bE l (i:Int) [40]=true
 ·rw [if_pos k1]
  have hin:=aX k1
  refine Hs.evb (pQ hl k1) ?_
  refine Hs.isT rfl ?_
  have b:=bFJ hl (n:=n) (i:=i+1) (by omega)
  have p:=ihM (i+1) (by omega) (by omega)
  generalize yP l n (i+1)=g1 at *
  obtain ⟨g1a,g1b,g1c⟩:=b
  refine Hs.par p (fun h1 _=>?_) (fun a _ he=>?_)
  rotate_left
  ·repeat' first
    | exact Hs.pure ⟨rfl,rfl,rfl,fun h=>absurd h he,trivial⟩
    | refine Hs.evb (jH l _ _ he _ (by decide)) ?_
  have g1c:=g1c h1
  have b:=eN l [[41]] (g1.2.1) (by omega)
  have p:=aHL hl [[41]] (by decide) (g1.2.1)
  generalize ks l [[41]] (g1.2.1)=g2 at *
  obtain ⟨g2a,g2b⟩:=b
  refine Hs.parU p (fun h2=>?_) (fun he=>?_)
  rotate_left
  ·exact Hs.pure ⟨rfl,rfl,rfl,fun h=>absurd h he,trivial⟩
  exact Hs.pure ⟨rfl,rfl,rfl,fun _=>rfl,trivial⟩
 rw [if_neg k1]
 refine Hs.evb (gG (by simpa using k1)) ?_
 refine Hs.isF rfl ?_
 have tail:Hs (fun K=>(cQ K l (i:Int) 0).bind fun (v36,v37,v38,v39)=>(fR K 41 v36 []).bind fun v40=>some (v40,v37,v38,v39)) (QS l TT (bnd .nil (lgR l i) fun s i=>(.node 41 0 s [] [],i,0))):=by
  have b:=aJx (l:=l) (i:=i) (by omega)
  have sN:=aJK (l:=l) (i:=i)
  have p:=aWl hl (i)
  generalize lgR l (i)=g1 at *
  obtain ⟨g1a,g1b⟩:=b
  refine Hs.par p (fun h1 _=>?_) (fun a _ he=>?_)
  rotate_left
  ·repeat' first
    | exact Hs.pure ⟨rfl,rfl,rfl,fun h=>absurd h he,trivial⟩
    | refine Hs.evb (iT ..) ?_
  have sN:=sN h1
  exact Hs.evb (iT ..) (Hs.pure ⟨rfl,rfl,rfl,fun _=>rfl,trivial⟩)
 refine Hs.evb (aDd l i) ?_
 by_cases k2:(pX l (i:Int)).2=true∧bE l ((i+1:Nat):Int) [40]=true
 ·rw [if_pos k2]
  have hin:=aX k2.2
  generalize pX l (i:Int)=N at *
  obtain ⟨s,bb⟩:=N
  simp only at k2 ⊢
  refine Hs.isT k2.1 ?_
  rw [wr1 (by omega),wr2 (by omega)]
  refine Hs.evb (aCS l _ _) ?_
  refine Hs.isT k2.2 ?_
  refine Hs.d (fun _=>?_) (fun h=>absurd trivial h)
  refine Hs.step (fun k=>by rw [nU]) ?_
  have b:=bFJ hl (n:=n) (i:=i+2) (by omega)
  have p:=ihM (i+2) (by omega) (by omega)
  generalize yP l n (i+2)=g1 at *
  obtain ⟨g1a,g1b,g1c⟩:=b
  refine Hs.par p (fun h1 _=>?_) (fun a _ he=>?_)
  rotate_left
  ·repeat' first
    | exact Hs.pure ⟨rfl,rfl,rfl,fun h=>absurd h he,trivial⟩
    | refine Hs.evb (jH l _ _ he _ (by decide)) ?_
    | refine Hs.evb (iT ..) ?_
  have g1c:=g1c h1
  have b:=eN l [[41]] (g1.2.1) (by omega)
  have p:=aHL hl [[41]] (by decide) (g1.2.1)
  generalize ks l [[41]] (g1.2.1)=g2 at *
  obtain ⟨g2a,g2b⟩:=b
  refine Hs.parU p (fun h2=>?_) (fun he=>?_)
  rotate_left
  ·repeat' first
    | exact Hs.pure ⟨rfl,rfl,rfl,fun h=>absurd h he,trivial⟩
    | refine Hs.evb (iT ..) ?_
  exact Hs.evb (iT ..) (Hs.pure ⟨rfl,rfl,rfl,fun _=>rfl,trivial⟩)
 rw [if_neg k2]
 generalize pX l (i:Int)=N at *
 obtain ⟨s,bb⟩:=N
 simp only at k2 ⊢
 refine Hs.is (fun hb=>?_) (fun _=>tail)
 rw [wr1 (by omega)]
 refine Hs.evb (aCS l _ _) ?_
 exact Hs.is (fun hk=>absurd ⟨hb,hk⟩ k2) (fun _=>tail)
theorem bFi (ihS:IX l n 2 cF (rL l n)):IP l (n+1):=by
 intro i hi hn hb
 rw [aCd]
 refine Hs.step (fun k=>by rw [eI]) ?_
 by_cases k0:bE l (i:Int) yW=true
 ·rw [if_pos k0]
  have hin:=aX k0
  refine Hs.evb (pQ hl k0) ?_
  refine Hs.isT rfl ?_
  have b:=oK (l:=l) (i:=i+1) (by omega)
  have sN:=rN (l:=l) (i:=i+1)
  have p:=aJT hl (i+1)
  generalize nmR l (i+1)=g1 at *
  obtain ⟨g1a,g1b⟩:=b
  refine Hs.par p (fun h1 _=>?_) (fun a _ he=>?_)
  rotate_left
  ·repeat' first
    | exact Hs.pure ⟨rfl,rfl,rfl,fun h=>absurd h he,nofun⟩
    | refine Hs.evb (aWd l _ _ he _) ?_
    | refine Hs.evb (iT ..) ?_
  have sN:=sN h1
  have b:=aCh (s:=[58]) (f:=fun j=>tyR l j) (i:=g1.2.1) (by omega) (fun j hj=>aGP hl hj)
  have p:=bGj hl [58] (i:=g1.2.1) (by omega)
  generalize bhd .nil l [58] (fun j=>tyR l j) (g1.2.1)=g2 at *
  obtain ⟨g2a,g2b,g2c⟩:=b
  refine Hs.par p (fun h2 _=>?_) (fun a _ he=>?_)
  rotate_left
  ·repeat' first
    | exact Hs.pure ⟨rfl,rfl,rfl,fun h=>absurd h he,nofun⟩
    | refine Hs.evb (iT ..) ?_
  have g2c:=g2c h2
  exact Hs.evb (iT ..) (Hs.pure ⟨rfl,rfl,rfl,fun _=>rfl,nofun⟩)
 rw [if_neg k0]
 refine Hs.evb (gG (by simpa using k0)) ?_
 refine Hs.isF rfl ?_
 by_cases k1:bE l (i:Int) fL=true
 ·rw [if_pos k1]
  have hin:=aX k1
  refine Hs.evb (pQ hl k1) ?_
  refine Hs.isT rfl ?_
  have b:=oK (l:=l) (i:=i+1) (by omega)
  have sN:=rN (l:=l) (i:=i+1)
  have p:=aJT hl (i+1)
  generalize nmR l (i+1)=g1 at *
  obtain ⟨g1a,g1b⟩:=b
  refine Hs.par p (fun h1 _=>?_) (fun a _ he=>?_)
  rotate_left
  ·repeat' first
    | exact Hs.pure ⟨rfl,rfl,rfl,fun h=>absurd h he,nofun⟩
    | refine Hs.evb (aFP l _ _ he) ?_
    | refine Hs.evb (iT ..) ?_
    | refine Hs.evb (lN l _ _ he _) ?_
    | refine Hs.isF rfl ?_
    | refine Hs.isT rfl ?_
  have sN:=sN h1
  by_cases j1:bE l (g1.2.1:Int) [61]=true
  ·rw [if_pos j1]
   have hin2:=aX j1
   refine Hs.evb (pQ hl j1) ?_
   refine Hs.isF rfl ?_
   have b:=aGP hl (i:=g1.2.1+1) (by omega)
   have p:=bE0 hl (i:=g1.2.1+1) (by omega)
   generalize tyR l (g1.2.1+1)=g2 at *
   obtain ⟨g2a,g2b,g2c⟩:=b
   refine Hs.par p (fun h2 _=>?_) (fun a _ he=>?_)
   rotate_left
   ·repeat' first
     | exact Hs.pure ⟨rfl,rfl,rfl,fun h=>absurd h he,nofun⟩
     | refine Hs.evb (iT ..) ?_
   have g2c:=g2c h2
   exact Hs.evb (iT ..) (Hs.pure ⟨rfl,rfl,rfl,fun _=>rfl,nofun⟩)
  rw [if_neg j1]
  refine Hs.evb (gG (by simpa using j1)) ?_
  refine Hs.isT rfl ?_
  exact Hs.evb (iT ..) (Hs.pure ⟨rfl,rfl,rfl,fun _=>rfl,nofun⟩)
 rw [if_neg k1]
 refine Hs.evb (gG (by simpa using k1)) ?_
 refine Hs.isF rfl ?_
 by_cases k2:bE l (i:Int) mM=true
 ·rw [if_pos k2]
  have hin:=aX k2
  refine Hs.evb (pQ hl k2) ?_
  refine Hs.isT rfl ?_
  have b:=oK (l:=l) (i:=i+1) (by omega)
  have sN:=rN (l:=l) (i:=i+1)
  have p:=aJT hl (i+1)
  generalize nmR l (i+1)=g1 at *
  obtain ⟨g1a,g1b⟩:=b
  refine Hs.par p (fun h1 _=>?_) (fun a _ he=>?_)
  rotate_left
  ·repeat' first
    | exact Hs.pure ⟨rfl,rfl,rfl,fun h=>absurd h he,nofun⟩
    | refine Hs.evb (jH l _ _ he _ (by decide)) ?_
    | refine Hs.evb (aL1 l _ _ he) ?_
    | refine Hs.evb (iT ..) ?_
  have sN:=sN h1
  have b:=eN l [[61]] (g1.2.1) (by omega)
  have p:=aHL hl [[61]] (by decide) (g1.2.1)
  generalize ks l [[61]] (g1.2.1)=g2 at *
  obtain ⟨g2a,g2b⟩:=b
  refine Hs.parU p (fun h2=>?_) (fun he=>?_)
  rotate_left
  ·repeat' first
    | exact Hs.pure ⟨rfl,rfl,rfl,fun h=>absurd h he,nofun⟩
    | refine Hs.evb (aL1 l _ _ he) ?_
    | refine Hs.evb (iT ..) ?_
  have b:=bBe hl (i:=g2.2.1) (by omega)
  have p:=bF3 hl (i:=g2.2.1) (by omega)
  generalize cnR l (g2.2.1)=g3 at *
  obtain ⟨g3a,g3b,g3c⟩:=b
  refine Hs.par p (fun h3 _=>?_) (fun a _ he=>?_)
  rotate_left
  ·repeat' first
    | exact Hs.pure ⟨rfl,rfl,rfl,fun h=>absurd h he,nofun⟩
    | refine Hs.evb (iT ..) ?_
  have g3c:=g3c h3
  exact Hs.evb (iT ..) (Hs.pure ⟨rfl,rfl,rfl,fun _=>rfl,nofun⟩)
 rw [if_neg k2]
 refine Hs.evb (gG (by simpa using k2)) ?_
 refine Hs.isF rfl ?_
 by_cases k3:bE l (i:Int) aAH=true
 ·rw [if_pos k3]
  have hin:=aX k3
  refine Hs.evb (pQ hl k3) ?_
  refine Hs.isT rfl ?_
  have b:=oK (l:=l) (i:=i+1) (by omega)
  have sN:=rN (l:=l) (i:=i+1)
  have p:=aJT hl (i+1)
  generalize nmR l (i+1)=g1 at *
  obtain ⟨g1a,g1b⟩:=b
  refine Hs.par p (fun h1 _=>?_) (fun a _ he=>?_)
  rotate_left
  ·repeat' first
    | exact Hs.pure ⟨rfl,rfl,rfl,fun h=>absurd h he,nofun⟩
    | refine Hs.evb (aH1 l _ _ he _) ?_
    | refine Hs.evb (iT ..) ?_
  have sN:=sN h1
  have b:=aCh (s:=[58]) (f:=fun j=>rL l n j) (i:=g1.2.1) (by omega) (fun j hj=>bCc hl hj)
  have p:=bCG hl ihS (s:=[58]) (i:=g1.2.1) (by omega) (by omega)
  generalize bhd .nil l [58] (fun j=>rL l n j) (g1.2.1)=g2 at *
  obtain ⟨g2a,g2b,g2c⟩:=b
  refine Hs.par p (fun h2 _=>?_) (fun a _ he=>?_)
  rotate_left
  ·repeat' first
    | exact Hs.pure ⟨rfl,rfl,rfl,fun h=>absurd h he,nofun⟩
    | refine Hs.evb (iT ..) ?_
  have g2c:=g2c h2
  exact Hs.evb (iT ..) (Hs.pure ⟨rfl,rfl,rfl,fun _=>rfl,nofun⟩)
 rw [if_neg k3]
 refine Hs.evb (gG (by simpa using k3)) ?_
 refine Hs.isF rfl ?_
 by_cases k4:bE l (i:Int) aAD=true
 ·rw [if_pos k4]
  have hin:=aX k4
  refine Hs.evb (pQ hl k4) ?_
  refine Hs.isT rfl ?_
  have b:=bCc hl (n:=n) (i:=i+1) (by omega)
  have p:=ihS (i+1) (by omega) (by omega)
  generalize rL l n (i+1)=g1 at *
  obtain ⟨g1a,g1b,g1c⟩:=b
  refine Hs.par p (fun h1 _=>?_) (fun a _ he=>?_)
  rotate_left
  ·repeat' first
    | exact Hs.pure ⟨rfl,rfl,rfl,fun h=>absurd h he,nofun⟩
    | refine Hs.evb (iT ..) ?_
  have g1c:=g1c h1
  exact Hs.evb (iT ..) (Hs.pure ⟨rfl,rfl,rfl,fun _=>rfl,nofun⟩)
 rw [if_neg k4]
 refine Hs.evb (gG (by simpa using k4)) ?_
 refine Hs.isF rfl ?_
 by_cases k5:bE l (i:Int) aBF=true
 ·rw [if_pos k5]
  have hin:=aX k5
  refine Hs.evb (pQ hl k5) ?_
  refine Hs.isT rfl ?_
  have b:=eN l [fL] (i+1) (by omega)
  have p:=aHL hl [fL] (by decide) (i+1)
  generalize ks l [fL] (i+1)=g1 at *
  obtain ⟨g1a,g1b⟩:=b
  refine Hs.parU p (fun h1=>?_) (fun he=>?_)
  rotate_left
  ·repeat' first
    | exact Hs.pure ⟨rfl,rfl,rfl,fun h=>absurd h he,nofun⟩
    | refine Hs.evb (jH l _ _ he _ (by decide)) ?_
    | refine Hs.evb (aCv l _ _ he) ?_
  have b:=aJx (l:=l) (i:=g1.2.1) (by omega)
  have sN:=aJK (l:=l) (i:=g1.2.1)
  have p:=aWl hl (g1.2.1)
  generalize lgR l (g1.2.1)=g2 at *
  obtain ⟨g2a,g2b⟩:=b
  refine Hs.par p (fun h2 _=>?_) (fun a _ he=>?_)
  rotate_left
  ·repeat' first
    | exact Hs.pure ⟨rfl,rfl,rfl,fun h=>absurd h he,nofun⟩
    | refine Hs.evb (jH l _ _ he _ (by decide)) ?_
    | refine Hs.evb (aCv l _ _ he) ?_
  have sN:=sN h2
  have b:=eN l [[61]] (g2.2.1) (by omega)
  have p:=aHL hl [[61]] (by decide) (g2.2.1)
  generalize ks l [[61]] (g2.2.1)=g3 at *
  obtain ⟨g3a,g3b⟩:=b
  refine Hs.parU p (fun h3=>?_) (fun he=>?_)
  rotate_left
  ·repeat' first
    | exact Hs.pure ⟨rfl,rfl,rfl,fun h=>absurd h he,nofun⟩
    | refine Hs.evb (aCv l _ _ he) ?_
  have b:=aJx (l:=l) (i:=g3.2.1) (by omega)
  have sN:=aJK (l:=l) (i:=g3.2.1)
  have p:=aWl hl (g3.2.1)
  generalize lgR l (g3.2.1)=g4 at *
  obtain ⟨g4a,g4b⟩:=b
  refine Hs.par p (fun h4 _=>?_) (fun a _ he=>?_)
  rotate_left
  ·exact Hs.pure ⟨rfl,rfl,rfl,fun h=>absurd h he,nofun⟩
  have sN:=sN h4
  exact Hs.pure ⟨rfl,rfl,rfl,fun _=>rfl,nofun⟩
 rw [if_neg k5]
 refine Hs.evb (gG (by simpa using k5)) ?_
 refine Hs.isF rfl ?_
 exact absurd hb (by simp [bDy,aB7,k0,k1,k2,k3,k4,k5])
theorem bFo (ihS:IX l n 2 cF (rL l n)) (ihM:IX l n 2 dN (yP l n)):IE l (n+1):=by
 intro i hi hn top hb
 rw [aA4]
 refine Hs.step (fun k=>by rw [dW]) ?_
 by_cases k0:bE l (i:Int) yW=true
 ·rw [if_pos k0]
  have hin:=aX k0
  refine Hs.evb (pQ hl k0) ?_
  refine Hs.isT rfl ?_
  have b:=oK (l:=l) (i:=i+1) (by omega)
  have sN:=rN (l:=l) (i:=i+1)
  have p:=aJT hl (i+1)
  generalize nmR l (i+1)=g1 at *
  obtain ⟨g1a,g1b⟩:=b
  refine Hs.par p (fun h1 _=>?_) (fun a _ he=>?_)
  rotate_left
  ·repeat' first
    | exact Hs.pure ⟨rfl,rfl,rfl,fun h=>absurd h he,nofun⟩
    | refine Hs.evb (aFP l _ _ he) ?_
    | refine Hs.evb (aUE l _ _ he _) ?_
    | refine Hs.evb (aJC ..) ?_
    | refine Hs.opt (cM (by simp; omega)) ?_
    | refine Hs.evb (lN l _ _ he _) ?_
    | refine Hs.isF rfl ?_
    | refine Hs.isT rfl ?_
    | refine Hs.step (F:=fun K=>cB K _ _ _ _ _ _ _ _) (fun k=>by rw [cB]) ?_
  have sN:=sN h1
  refine Hs.evb (aJC ..) ?_
  by_cases j0:bE l (g1.2.1:Int) [58]=true
  ·rw [if_pos j0]
   have hin2:=aX j0
   refine Hs.evb (pQ hl j0) ?_
   refine Hs.isT rfl ?_
   have b:=aGP hl (i:=g1.2.1+1) (by omega)
   have p:=bE0 hl (i:=g1.2.1+1) (by omega)
   generalize tyR l (g1.2.1+1)=g2 at *
   obtain ⟨g2a,g2b,g2c⟩:=b
   refine Hs.par p (fun h2 _=>?_) (fun a _ he=>?_)
   rotate_left
   ·repeat' first
     | exact Hs.pure ⟨rfl,rfl,rfl,fun h=>absurd h he,nofun⟩
     | refine Hs.evb (aUE l _ _ he _) ?_
     | refine Hs.opt (cM (by simp; omega)) ?_
     | refine Hs.step (F:=fun K=>cB K _ _ _ _ _ _ _ _) (fun k=>by rw [cB]) ?_
   have g2c:=g2c h2
   refine Hs.opt (cM (by simp)) ?_
   refine Hs.step (F:=fun K=>cB K _ _ _ _ _ _ _ _) (fun k=>by rw [cB]) ?_
   have b:=aCh (s:=[61]) (f:=fun j=>exR l j) (i:=g2.2.1) (by omega) (fun j hj=>bAR hl hj)
   have p:=bDL hl [61] (i:=g2.2.1) (by omega)
   generalize bhd .nil l [61] (fun j=>exR l j) (g2.2.1)=g3 at *
   obtain ⟨g3a,g3b,g3c⟩:=b
   refine Hs.par p (fun h3 _=>?_) (fun a _ he=>?_)
   rotate_left
   ·repeat' first
     | exact Hs.pure ⟨rfl,rfl,rfl,fun h=>absurd h he,nofun⟩
     | refine Hs.opt (cM (by simp; omega)) ?_
   have g3c:=g3c h3
   refine Hs.opt (cM (by simp)) ?_
   exact Hs.pure ⟨rfl,rfl,rfl,fun _=>rfl,nofun⟩
  rw [if_neg j0]
  refine Hs.evb (gG (by simpa using j0)) ?_
  refine Hs.isF rfl ?_
  refine Hs.step (F:=fun K=>cB K _ _ _ _ _ _ _ _) (fun k=>by rw [cB]) ?_
  have b:=aCh (s:=[61]) (f:=fun j=>exR l j) (i:=g1.2.1) (by omega) (fun j hj=>bAR hl hj)
  have p:=bDL hl [61] (i:=g1.2.1) (by omega)
  generalize bhd .nil l [61] (fun j=>exR l j) (g1.2.1)=g2 at *
  obtain ⟨g2a,g2b,g2c⟩:=b
  refine Hs.par p (fun h2 _=>?_) (fun a _ he=>?_)
  rotate_left
  ·repeat' first
    | exact Hs.pure ⟨rfl,rfl,rfl,fun h=>absurd h he,nofun⟩
    | refine Hs.opt (cM (by simp; omega)) ?_
  have g2c:=g2c h2
  refine Hs.opt (cM (by simp)) ?_
  exact Hs.pure ⟨rfl,rfl,rfl,fun _=>rfl,nofun⟩
 rw [if_neg k0]
 refine Hs.evb (gG (by simpa using k0)) ?_
 refine Hs.isF rfl ?_
 by_cases k1:bE l (i:Int) fL=true
 ·rw [if_pos k1]
  have hin:=aX k1
  refine Hs.evb (pQ hl k1) ?_
  refine Hs.isT rfl ?_
  have b:=oK (l:=l) (i:=i+1) (by omega)
  have sN:=rN (l:=l) (i:=i+1)
  have p:=aJT hl (i+1)
  generalize nmR l (i+1)=g1 at *
  obtain ⟨g1a,g1b⟩:=b
  refine Hs.par p (fun h1 _=>?_) (fun a _ he=>?_)
  rotate_left
  ·repeat' first
    | exact Hs.pure ⟨rfl,rfl,rfl,fun h=>absurd h he,nofun⟩
    | refine Hs.evb (aWd l _ _ he _) ?_
    | refine Hs.evb (iT ..) ?_
  have sN:=sN h1
  have b:=aCh (s:=[61]) (f:=fun j=>tyR l j) (i:=g1.2.1) (by omega) (fun j hj=>aGP hl hj)
  have p:=bGj hl [61] (i:=g1.2.1) (by omega)
  generalize bhd .nil l [61] (fun j=>tyR l j) (g1.2.1)=g2 at *
  obtain ⟨g2a,g2b,g2c⟩:=b
  refine Hs.par p (fun h2 _=>?_) (fun a _ he=>?_)
  rotate_left
  ·repeat' first
    | exact Hs.pure ⟨rfl,rfl,rfl,fun h=>absurd h he,nofun⟩
    | refine Hs.evb (iT ..) ?_
  have g2c:=g2c h2
  exact Hs.evb (iT ..) (Hs.pure ⟨rfl,rfl,rfl,fun _=>rfl,nofun⟩)
 rw [if_neg k1]
 refine Hs.evb (gG (by simpa using k1)) ?_
 refine Hs.isF rfl ?_
 by_cases k2:bE l (i:Int) mM=true
 ·rw [if_pos k2]
  have hin:=aX k2
  refine Hs.evb (pQ hl k2) ?_
  refine Hs.isT rfl ?_
  have b:=oK (l:=l) (i:=i+1) (by omega)
  have sN:=rN (l:=l) (i:=i+1)
  have p:=aJT hl (i+1)
  generalize nmR l (i+1)=g1 at *
  obtain ⟨g1a,g1b⟩:=b
  refine Hs.par p (fun h1 _=>?_) (fun a _ he=>?_)
  rotate_left
  ·repeat' first
    | exact Hs.pure ⟨rfl,rfl,rfl,fun h=>absurd h he,nofun⟩
    | refine Hs.evb (jH l _ _ he _ (by decide)) ?_
    | refine Hs.evb (aL1 l _ _ he) ?_
    | refine Hs.evb (iT ..) ?_
  have sN:=sN h1
  have b:=eN l [[61]] (g1.2.1) (by omega)
  have p:=aHL hl [[61]] (by decide) (g1.2.1)
  generalize ks l [[61]] (g1.2.1)=g2 at *
  obtain ⟨g2a,g2b⟩:=b
  refine Hs.parU p (fun h2=>?_) (fun he=>?_)
  rotate_left
  ·repeat' first
    | exact Hs.pure ⟨rfl,rfl,rfl,fun h=>absurd h he,nofun⟩
    | refine Hs.evb (aL1 l _ _ he) ?_
    | refine Hs.evb (iT ..) ?_
  have b:=bBe hl (i:=g2.2.1) (by omega)
  have p:=bF3 hl (i:=g2.2.1) (by omega)
  generalize cnR l (g2.2.1)=g3 at *
  obtain ⟨g3a,g3b,g3c⟩:=b
  refine Hs.par p (fun h3 _=>?_) (fun a _ he=>?_)
  rotate_left
  ·repeat' first
    | exact Hs.pure ⟨rfl,rfl,rfl,fun h=>absurd h he,nofun⟩
    | refine Hs.evb (iT ..) ?_
  have g3c:=g3c h3
  exact Hs.evb (iT ..) (Hs.pure ⟨rfl,rfl,rfl,fun _=>rfl,nofun⟩)
 rw [if_neg k2]
 refine Hs.evb (gG (by simpa using k2)) ?_
 refine Hs.isF rfl ?_
 by_cases k3:bE l (i:Int) aAH=true
 ·rw [if_pos k3]
  have hin:=aX k3
  refine Hs.evb (pQ hl k3) ?_
  refine Hs.isT rfl ?_
  have b:=oK (l:=l) (i:=i+1) (by omega)
  have sN:=rN (l:=l) (i:=i+1)
  have p:=aJT hl (i+1)
  generalize nmR l (i+1)=g1 at *
  obtain ⟨g1a,g1b⟩:=b
  refine Hs.par p (fun h1 _=>?_) (fun a _ he=>?_)
  rotate_left
  ·repeat' first
    | exact Hs.pure ⟨rfl,rfl,rfl,fun h=>absurd h he,nofun⟩
    | refine Hs.evb (aEv l _ _ he _) ?_
    | refine Hs.evb (iT ..) ?_
  have sN:=sN h1
  have b:=aCh (s:=[61]) (f:=fun j=>yP l n j) (i:=g1.2.1) (by omega) (fun j hj=>bFJ hl hj)
  have p:=bGf hl ihM (s:=[61]) (i:=g1.2.1) (by omega) (by omega)
  generalize bhd .nil l [61] (fun j=>yP l n j) (g1.2.1)=g2 at *
  obtain ⟨g2a,g2b,g2c⟩:=b
  refine Hs.par p (fun h2 _=>?_) (fun a _ he=>?_)
  rotate_left
  ·repeat' first
    | exact Hs.pure ⟨rfl,rfl,rfl,fun h=>absurd h he,nofun⟩
    | refine Hs.evb (iT ..) ?_
  have g2c:=g2c h2
  exact Hs.evb (iT ..) (Hs.pure ⟨rfl,rfl,rfl,fun _=>rfl,nofun⟩)
 rw [if_neg k3]
 refine Hs.evb (gG (by simpa using k3)) ?_
 refine Hs.isF rfl ?_
 by_cases k4:bE l (i:Int) aAZ=true
 ·rw [if_pos k4]
  have hin:=aX k4
  refine Hs.evb (pQ hl k4) ?_
  refine Hs.isT rfl ?_
  have b:=aJx (l:=l) (i:=i+1) (by omega)
  have sN:=aJK (l:=l) (i:=i+1)
  have p:=aWl hl (i+1)
  generalize lgR l (i+1)=g1 at *
  obtain ⟨g1a,g1b⟩:=b
  refine Hs.par p (fun h1 _=>?_) (fun a _ he=>?_)
  rotate_left
  ·repeat' first
    | exact Hs.pure ⟨rfl,rfl,rfl,fun h=>absurd h he,nofun⟩
    | refine Hs.evb (aJC ..) ?_
  have sN:=sN h1
  exact Hs.evb (aJC ..) (Hs.pure ⟨rfl,rfl,rfl,fun _=>rfl,nofun⟩)
 rw [if_neg k4]
 refine Hs.evb (gG (by simpa using k4)) ?_
 refine Hs.isF rfl ?_
 by_cases k5:bE l (i:Int) aAD=true
 ·rw [if_pos k5]
  have hin:=aX k5
  refine Hs.evb (pQ hl k5) ?_
  refine Hs.isT rfl ?_
  have b:=aJx (l:=l) (i:=i+1) (by omega)
  have sN:=aJK (l:=l) (i:=i+1)
  have p:=aWl hl (i+1)
  generalize lgR l (i+1)=g1 at *
  obtain ⟨g1a,g1b⟩:=b
  refine Hs.par p (fun h1 _=>?_) (fun a _ he=>?_)
  rotate_left
  ·repeat' first
    | exact Hs.pure ⟨rfl,rfl,rfl,fun h=>absurd h he,nofun⟩
    | refine Hs.evb (aJC ..) ?_
  have sN:=sN h1
  exact Hs.evb (aJC ..) (Hs.pure ⟨rfl,rfl,rfl,fun _=>rfl,nofun⟩)
 rw [if_neg k5]
 refine Hs.evb (gG (by simpa using k5)) ?_
 refine Hs.isF rfl ?_
 cases top with
 | false=>exact absurd hb (by simp [bCn,aB7,k0,k1,k2,k3,k4,k5])
 | true =>
 refine Hs.isT rfl ?_
 by_cases k6:bE l (i:Int) aJ3=true
 ·rw [if_pos ⟨rfl,k6⟩]
  have hin:=aX k6
  refine Hs.evb (pQ hl k6) ?_
  refine Hs.isT rfl ?_
  have b:=oK (l:=l) (i:=i+1) (by omega)
  have sN:=rN (l:=l) (i:=i+1)
  have p:=aJT hl (i+1)
  generalize nmR l (i+1)=g1 at *
  obtain ⟨g1a,g1b⟩:=b
  refine Hs.par p (fun h1 _=>?_) (fun a _ he=>?_)
  rotate_left
  ·repeat' first
    | exact Hs.pure ⟨rfl,rfl,rfl,fun h=>absurd h he,nofun⟩
    | refine Hs.evb (aH1 l _ _ he _) ?_
    | refine Hs.evb (iT ..) ?_
  have sN:=sN h1
  have b:=aCh (s:=[61]) (f:=fun j=>rL l n j) (i:=g1.2.1) (by omega) (fun j hj=>bCc hl hj)
  have p:=bCG hl ihS (s:=[61]) (i:=g1.2.1) (by omega) (by omega)
  generalize bhd .nil l [61] (fun j=>rL l n j) (g1.2.1)=g2 at *
  obtain ⟨g2a,g2b,g2c⟩:=b
  refine Hs.par p (fun h2 _=>?_) (fun a _ he=>?_)
  rotate_left
  ·repeat' first
    | exact Hs.pure ⟨rfl,rfl,rfl,fun h=>absurd h he,nofun⟩
    | refine Hs.evb (iT ..) ?_
  have g2c:=g2c h2
  exact Hs.evb (iT ..) (Hs.pure ⟨rfl,rfl,rfl,fun _=>rfl,nofun⟩)
 rw [if_neg (fun h=>k6 h.2)]
 refine Hs.evb (gG (by simpa using k6)) ?_
 refine Hs.isF rfl ?_
 by_cases k7:bE l (i:Int) aKb=true
 ·rw [if_pos ⟨rfl,k7⟩]
  have hin:=aX k7
  refine Hs.evb (pQ hl k7) ?_
  refine Hs.isT rfl ?_
  have b:=oK (l:=l) (i:=i+1) (by omega)
  have sN:=rN (l:=l) (i:=i+1)
  have p:=aJT hl (i+1)
  generalize nmR l (i+1)=g1 at *
  obtain ⟨g1a,g1b⟩:=b
  refine Hs.par p (fun h1 _=>?_) (fun a _ he=>?_)
  rotate_left
  ·repeat' first
    | exact Hs.pure ⟨rfl,rfl,rfl,fun h=>absurd h he,nofun⟩
    | refine Hs.evb (jH l _ _ he _ (by decide)) ?_
    | refine Hs.evb (aQs l _ _ he) ?_
    | refine Hs.evb (aH1 l _ _ he _) ?_
    | refine Hs.evb (aEv l _ _ he _) ?_
    | refine Hs.evb (aJC ..) ?_
    | refine Hs.step (F:=fun K=>fZ K _ _ _ _ _ _ _) (fun k=>by rw [fZ]) ?_
  have sN:=sN h1
  refine Hs.evb (aJC ..) ?_
  refine Hs.step (F:=fun K=>fZ K _ _ _ _ _ _ _) (fun k=>by rw [fZ]) ?_
  have b:=eN l [[40]] (g1.2.1) (by omega)
  have p:=aHL hl [[40]] (by decide) (g1.2.1)
  generalize ks l [[40]] (g1.2.1)=g2 at *
  obtain ⟨g2a,g2b⟩:=b
  refine Hs.parU p (fun h2=>?_) (fun he=>?_)
  rotate_left
  ·repeat' first
    | exact Hs.pure ⟨rfl,rfl,rfl,fun h=>absurd h he,nofun⟩
    | refine Hs.evb (jH l _ _ he _ (by decide)) ?_
    | refine Hs.evb (aQs l _ _ he) ?_
    | refine Hs.evb (aH1 l _ _ he _) ?_
    | refine Hs.evb (aEv l _ _ he _) ?_
  have b:=oK (l:=l) (i:=g2.2.1) (by omega)
  have sN:=rN (l:=l) (i:=g2.2.1)
  have p:=aJT hl (g2.2.1)
  generalize nmR l (g2.2.1)=g3 at *
  obtain ⟨g3a,g3b⟩:=b
  refine Hs.par p (fun h3 _=>?_) (fun a _ he=>?_)
  rotate_left
  ·repeat' first
    | exact Hs.pure ⟨rfl,rfl,rfl,fun h=>absurd h he,nofun⟩
    | refine Hs.evb (jH l _ _ he _ (by decide)) ?_
    | refine Hs.evb (aH1 l _ _ he _) ?_
    | refine Hs.evb (aEv l _ _ he _) ?_
  have sN:=sN h3
  have b:=aCh (s:=[58]) (f:=fun j=>rL l n j) (i:=g3.2.1) (by omega) (fun j hj=>bCc hl hj)
  have p:=bCG hl ihS (s:=[58]) (i:=g3.2.1) (by omega) (by omega)
  generalize bhd .nil l [58] (fun j=>rL l n j) (g3.2.1)=g4 at *
  obtain ⟨g4a,g4b,g4c⟩:=b
  refine Hs.par p (fun h4 _=>?_) (fun a _ he=>?_)
  rotate_left
  ·repeat' first
    | exact Hs.pure ⟨rfl,rfl,rfl,fun h=>absurd h he,nofun⟩
    | refine Hs.evb (jH l _ _ he _ (by decide)) ?_
    | refine Hs.evb (aEv l _ _ he _) ?_
  have g4c:=g4c h4
  have b:=eN l [[41]] (g4.2.1) (by omega)
  have p:=aHL hl [[41]] (by decide) (g4.2.1)
  generalize ks l [[41]] (g4.2.1)=g5 at *
  obtain ⟨g5a,g5b⟩:=b
  refine Hs.parU p (fun h5=>?_) (fun he=>?_)
  rotate_left
  ·repeat' first
    | exact Hs.pure ⟨rfl,rfl,rfl,fun h=>absurd h he,nofun⟩
    | refine Hs.evb (aEv l _ _ he _) ?_
  have b:=aCh (s:=[61]) (f:=fun j=>yP l n j) (i:=g5.2.1) (by omega) (fun j hj=>bFJ hl hj)
  have p:=bGf hl ihM (s:=[61]) (i:=g5.2.1) (by omega) (by omega)
  generalize bhd .nil l [61] (fun j=>yP l n j) (g5.2.1)=g6 at *
  obtain ⟨g6a,g6b,g6c⟩:=b
  refine Hs.par p (fun h6 _=>?_) (fun a _ he=>?_)
  rotate_left
  ·exact Hs.pure ⟨rfl,rfl,rfl,fun h=>absurd h he,nofun⟩
  have g6c:=g6c h6
  exact Hs.pure ⟨rfl,rfl,rfl,fun _=>rfl,nofun⟩
 rw [if_neg (fun h=>k7 h.2)]
 refine Hs.evb (gG (by simpa using k7)) ?_
 refine Hs.isF rfl ?_
 exact absurd hb (by simp [bCn,aB7,k0,k1,k2,k3,k4,k5,k6,k7])
theorem bDr:∀ n,IX l n 2 dN (yP l n)∧IL l n cV (aD3 l n)∧IX l n 1 fU (aDU l n)∧IX l n 2 cF (rL l n)∧IL l n dO (aGn l n)∧IX l n 1 fQ (aGF l n) ∧
  IS l n∧IP l n∧ID l n∧IE l n:=by
 intro n
 induction n with
 | zero=>exact ⟨aCQ (by decide),aPa,aCQ (by decide),aCQ (by decide),aPa,aCQ (by decide),fun j _ h=>by omega,fun j _ h=>by omega,fun j _ h=>by omega,fun j _ h=>by omega⟩
 | succ n ih =>
  obtain ⟨i1,i2,i3,i4,i5,i6,i7,i8,i9,i10⟩:=ih
  exact ⟨bIl hl i3 i2,bFa hl i4 i2,bFM hl i1 i9,bGX hl i6 i5,bER hl i5,bFZ hl i7,bCH hl i8 i7,bFi hl i4,bDz hl i10 i9,bFo hl i4 i1⟩
end
end Go.Proofs.YtjhfgiieicloeaaGreatDoor

/- The program's parser of modules, at any place. -/
namespace Go.Proofs.YtjhfgiieicloeaaGreatDoor
open Go Go.Am Go.Sx
section
variable {l:List aI} (hl:l.length≤20000)
include hl
theorem bBa {i:Int} (h:0≤i∧i≤(l.length:Int)):Ev (fun K=>aAk K l i) (l,i,0):=by
 have:=hl
 refine Ev.congr (f:=fun K=>_) ?_ (fun k=>by rw [aAk])
 exact Ev.dF (by omega) (Ev.dF (by omega) Ev.pure)
theorem bGc {n i:Nat} (hi:i≤l.length) (hn:8 * (l.length - i)+2≤n):Ev (fun K=>aHD K l (i:Int)) (aXS (yP l n i)):=by
 obtain ⟨⟨a,l',i',e'⟩,h1,h2,h3,h4,h5,_⟩:=(bDr hl n).1 i hi hn
 generalize yP l n i=g at *
 simp only at h2 h3 h4 h5
 subst h2 h3 h4
 refine Ev.congr (f:=fun K=>_) ?_ (fun k=>by rw [aHD])
 refine Ev.bind (bBa hl (by omega)) ?_
 refine Ev.bind h1 ?_
 unfold aXS
 by_cases he:g.2.2=0
 ·rw [if_pos he]
  exact Ev.bind (Ev.congr (f:=fun K=>_) (Ev.nF he Ev.pure) (fun k=>by rw [lD])) (Ev.pure' (by rw [h5 he,he]))
 ·rw [if_neg he]
  exact Ev.bind (Ev.congr (f:=fun K=>_) (Ev.nT he Ev.pure) (fun k=>by rw [lD])) Ev.pure
theorem bGa {n i:Nat} (hi:i≤l.length) (hn:8 * (l.length - i)+2≤n):Ev (fun K=>aHY K l (i:Int)) (aXS (rL l n i)):=by
 obtain ⟨⟨a,l',i',e'⟩,h1,h2,h3,h4,h5,_⟩:=(bDr hl n).2.2.2.1 i hi hn
 generalize rL l n i=g at *
 simp only at h2 h3 h4 h5
 subst h2 h3 h4
 refine Ev.congr (f:=fun K=>_) ?_ (fun k=>by rw [aHY])
 refine Ev.bind (bBa hl (by omega)) ?_
 refine Ev.bind h1 ?_
 unfold aXS
 by_cases he:g.2.2=0
 ·rw [if_pos he]
  exact Ev.bind (Ev.congr (f:=fun K=>_) (Ev.nF he Ev.pure) (fun k=>by rw [lD])) (Ev.pure' (by rw [h5 he,he]))
 ·rw [if_neg he]
  exact Ev.bind (Ev.congr (f:=fun K=>_) (Ev.nT he Ev.pure) (fun k=>by rw [lD])) Ev.pure
end
end Go.Proofs.YtjhfgiieicloeaaGreatDoor

