/- Joined texts: M3, M5p. -/
import Derived.Test.YtjhfgiieicloeaaGreatDoorGm
/- The program's parser of modules comes to its plain functions. Printed by gen8/m3.py. -/
namespace Go.Proofs.YtjhfgiieicloeaaGreatDoor
open Go Go.Am Go.Sx
abbrev TL:List Tr→Prop:=fun _=>True
abbrev NE:Tr→Prop:=fun t=>t≠.nil
theorem bAD {α β γ:Type} {d:γ} {d':β} {r:α×Nat×Int} {f:α→Nat→β×Nat×Int} {g:β→Nat→γ×Nat×Int}:bnd d (bnd d' r f) g=bnd d r fun a j=>bnd d (f a j) g:=by
 by_cases h:r.2.2=0
 ·simp [bnd,h]
 ·simp [bnd,h]
def bAb (l:List aF) (top:Bool) (i:Nat):Bool:=aAI l i [vC,eT,kY,xA,yI,vQ] || (top && aAI l i [aHH,aHn])
def bBk (l:List aF) (i:Nat):Bool:=aAI l i [vC,eT,kY,xA,vQ,yP]
def ID (l:List aF) (n:Nat):Prop:=∀ j,j≤l.length→8 * (l.length - j)+2≤n→∀ top out,out.length≤j→Hs (fun K=>(eF K l (j:Int) 0 top).bind fun (v1,v2,v3,v4)=>bM K top out v1 v2 v3 v4) (QS l TL (qE l n top out j))
def bDv (l:List aF) (r:LT):RT:=bnd .nil r fun k i=>bnd .nil (ks l [aDK] i) fun _ i=>(.node 50 0 [] [] k,i,0)
def IS (l:List aF) (n:Nat):Prop:=∀ j,j≤l.length→8 * (l.length - j)+2≤n→∀ out,out.length≤j→Hs (fun K=>(eS K l (j:Int) 0).bind fun (v1,v2,v3,v4)=>bY K v1 v2 v3 v4 50 0 [] [] out) (QS l TT (bDv l (vA l n out j)))
def IP (l:List aF) (n:Nat):Prop:=∀ j,j≤l.length→8 * (l.length - j)+1≤n→bBk l j=true→Hs (fun K=>eS K l (j:Int) 0) (QS l NE (wH l n j))
def IE (l:List aF) (n:Nat):Prop:=∀ j,j≤l.length→8 * (l.length - j)+1≤n→∀ top,bAb l top j=true→Hs (fun K=>eF K l (j:Int) 0 top) (QS l NE (uP l n top j))
theorem bBo {l:List aF} {i:Int} {top:Bool} {Q:List Tr×List aF×Int×Int→Prop} (h:Hs (fun K=>(eF K l i 0 top).bind fun (v1,v2,v3,v4)=>bM K top [] v1 v2 v3 v4) Q):Hs (fun K=>lB K l i 0 top) Q :=
 Hs.step (fun k=>by rw [lB]) h
theorem bEW {l:List aF} {i:Nat} (h:bBk l i=false):Ev (fun K=>eS K l (i:Int) 0) (.nil,l,(i:Int),0):=by
 simp only [bBk,aAI,List.any_cons,List.any_nil,Bool.or_eq_false_iff] at h
 obtain ⟨h1,h2,h3,h4,h5,h6,_⟩:=h
 refine Ev.step (fun k=>by rw [eS]) ?_
 refine Ev.bind (hU h1) (Ev.isF rfl ?_)
 refine Ev.bind (hU h2) (Ev.isF rfl ?_)
 refine Ev.bind (hU h3) (Ev.isF rfl ?_)
 refine Ev.bind (hU h4) (Ev.isF rfl ?_)
 refine Ev.bind (hU h5) (Ev.isF rfl ?_)
 refine Ev.bind (hU h6) (Ev.isF rfl ?_)
 exact Ev.pure
theorem bEu {l:List aF} {i:Nat} {top:Bool} (h:bAb l top i=false):Ev (fun K=>eF K l (i:Int) 0 top) (.nil,l,(i:Int),0):=by
 simp only [bAb,aAI,List.any_cons,List.any_nil,Bool.or_eq_false_iff] at h
 obtain ⟨⟨h1,h2,h3,h4,h5,h6,_⟩,h7⟩:=h
 refine Ev.step (fun k=>by rw [eF]) ?_
 refine Ev.bind (hU h1) (Ev.isF rfl ?_)
 refine Ev.bind (hU h2) (Ev.isF rfl ?_)
 refine Ev.bind (hU h3) (Ev.isF rfl ?_)
 refine Ev.bind (hU h4) (Ev.isF rfl ?_)
 refine Ev.bind (hU h5) (Ev.isF rfl ?_)
 refine Ev.bind (hU h6) (Ev.isF rfl ?_)
 cases top with
 | false=>exact Ev.isF rfl Ev.pure
 | true =>
  simp only [Bool.true_and,Bool.or_eq_false_iff] at h7
  obtain ⟨h7,h8,_⟩:=h7
  refine Ev.isT rfl ?_
  refine Ev.bind (hU h7) (Ev.isF rfl ?_)
  refine Ev.bind (hU h8) (Ev.isF rfl ?_)
  exact Ev.pure
section
variable {l:List aF} (hl:l.length≤20000)
include hl
theorem aXY {n i:Nat} (hi:i≤l.length):Pz l i (2 * i) (rD l n i):=(aWB hl n i hi).1
theorem bIR {n i:Nat} (hi:i≤l.length):Pz l i (2 * i) (zV l n i):=(aWB hl n i hi).2.2.1
theorem aQC {n i:Nat} (hi:i≤l.length):Pz l i (2 * i) (lQ l n i):=(aWB hl n i hi).2.2.2.1
theorem bH8 {n i:Nat} (hi:i≤l.length):Pz l i (2 * i) (aBV l n i):=(aWB hl n i hi).2.2.2.2.2.1
theorem bII {n i:Nat} {out:List Tr} (hi:i≤l.length):Pr l i out (vA l n out i):=(aWB hl n i hi).2.2.2.2.2.2.1 out
theorem bFc {n i:Nat} (hi:i≤l.length):Pz l i (2 * i) (wH l n i):=(aWB hl n i hi).2.2.2.2.2.2.2.1
theorem aZ1 {n i:Nat} {top:Bool} {out:List Tr} (hi:i≤l.length):Pr l i out (qE l n top out i):=(aWB hl n i hi).2.2.2.2.2.2.2.2.1 top out
theorem bIo {n i:Nat} {top:Bool} (hi:i≤l.length):Pz l i (2 * i) (uP l n top i):=(aWB hl n i hi).2.2.2.2.2.2.2.2.2 top
variable {n:Nat}
theorem bBc (ihS:IX l n 2 dJ (lQ l n)) {s:List UInt8} {i:Nat} (hi:i≤l.length) (hn:8 * (l.length - i)+2≤n):Hs (fun K=>dL K l (i:Int) 0 s) (QS l TT (bhd .nil l s (fun j=>lQ l n j) i)) :=
 aRl hl hi (fun _ h=>Hs.step (fun k=>by rw [dL]) h) (fun j hj _=>ihS j hj (by omega)) (fun j e he=>aXi l j e he)
theorem bFH (ihM:IX l n 2 eG (rD l n)) {s:List UInt8} {i:Nat} (hi:i≤l.length) (hn:8 * (l.length - i)+2≤n):Hs (fun K=>eB K l (i:Int) 0 s) (QS l TT (bhd .nil l s (fun j=>rD l n j) i)) :=
 aRl hl hi (fun _ h=>Hs.step (fun k=>by rw [eB]) h) (fun j hj _=>ihM j hj (by omega)) (fun j e he=>aWX l j e he)
theorem bFT (ihP:IX l n 1 gQ (zV l n)) (ihML:IL l n dD (aBa l n)):IX l (n+1) 2 eG (rD l (n+1)):=by
 intro i hi hn
 rw [rD]
 refine Hs.step (fun k=>by rw [eG]) ?_
 have b:=bIR hl (n:=n) (i:=i) (by omega)
 have p:=ihP (i) (by omega) (by omega)
 generalize zV l n (i)=g1 at *
 obtain ⟨g1a,g1b,g1c⟩:=b
 refine Hs.par p (fun h1 _=>?_) (fun a _ he=>?_)
 rotate_left
 ·repeat' first
   | exact Hs.pure ⟨rfl,rfl,rfl,fun h=>absurd h he,trivial⟩
   | exact Hs.ev (aKY l _ _ he _) ⟨rfl,rfl,rfl,fun h=>absurd h he,trivial⟩
 have g1c:=g1c h1
 exact ihML g1.2.1 (by omega) (by omega) _
theorem bER (ihS:IX l n 2 dJ (lQ l n)) (ihML:IL l n dD (aBa l n)):IL l (n+1) dD (aBa l (n+1)):=by
 intro i hi hn m
 rw [aBa]
 refine Hs.step (fun k=>by rw [dD]) ?_
 by_cases k0:aU l (i:Int) [58]=true
 ·rw [if_pos k0]
  have hin:=aN k0
  refine Hs.evb (pQ hl k0) ?_
  refine Hs.isT rfl ?_
  have b:=aQC hl (n:=n) (i:=i+1) (by omega)
  have p:=ihS (i+1) (by omega) (by omega)
  generalize lQ l n (i+1)=g1 at *
  obtain ⟨g1a,g1b,g1c⟩:=b
  refine Hs.par p (fun h1 _=>?_) (fun a _ he=>?_)
  rotate_left
  ·repeat' first
    | exact Hs.pure ⟨rfl,rfl,rfl,fun h=>absurd h he,trivial⟩
    | exact Hs.ev (aKY l _ _ he _) ⟨rfl,rfl,rfl,fun h=>absurd h he,trivial⟩
  have g1c:=g1c h1
  exact ihML g1.2.1 (by omega) (by omega) _
 rw [if_neg k0]
 refine Hs.evb (hU (by simpa using k0)) ?_
 refine Hs.isF rfl ?_
 by_cases k1:aU l (i:Int) [58,62]=true
 ·rw [if_pos k1]
  have hin:=aN k1
  refine Hs.evb (pQ hl k1) ?_
  refine Hs.isT rfl ?_
  have b:=aQC hl (n:=n) (i:=i+1) (by omega)
  have p:=ihS (i+1) (by omega) (by omega)
  generalize lQ l n (i+1)=g1 at *
  obtain ⟨g1a,g1b,g1c⟩:=b
  refine Hs.par p (fun h1 _=>?_) (fun a _ he=>?_)
  rotate_left
  ·repeat' first
    | exact Hs.pure ⟨rfl,rfl,rfl,fun h=>absurd h he,trivial⟩
    | exact Hs.ev (aKY l _ _ he _) ⟨rfl,rfl,rfl,fun h=>absurd h he,trivial⟩
  have g1c:=g1c h1
  exact ihML g1.2.1 (by omega) (by omega) _
 rw [if_neg k1]
 refine Hs.evb (hU (by simpa using k1)) ?_
 refine Hs.isF rfl ?_
 exact Hs.pure ⟨rfl,rfl,rfl,fun _=>rfl,trivial⟩
theorem bF3 (ihB:IX l n 1 gK (aBV l n)) (ihSL:IL l n dY (aCd l n)):IX l (n+1) 2 dJ (lQ l (n+1)):=by
 intro i hi hn
 rw [lQ]
 refine Hs.step (fun k=>by rw [dJ]) ?_
 have b:=bH8 hl (n:=n) (i:=i) (by omega)
 have p:=ihB (i) (by omega) (by omega)
 generalize aBV l n (i)=g1 at *
 obtain ⟨g1a,g1b,g1c⟩:=b
 refine Hs.par p (fun h1 _=>?_) (fun a _ he=>?_)
 rotate_left
 ·repeat' first
   | exact Hs.pure ⟨rfl,rfl,rfl,fun h=>absurd h he,trivial⟩
   | exact Hs.ev (aEs l _ _ he _) ⟨rfl,rfl,rfl,fun h=>absurd h he,trivial⟩
 have g1c:=g1c h1
 exact ihSL g1.2.1 (by omega) (by omega) _
theorem bEc (ihSL:IL l n dY (aCd l n)):IL l (n+1) dY (aCd l (n+1)):=by
 intro i hi hn m
 rw [aCd]
 refine Hs.step (fun k=>by rw [dY]) ?_
 by_cases k0:aU l (i:Int) aDD=true
 ·rw [if_pos k0]
  have hin:=aN k0
  refine Hs.evb (pQ hl k0) ?_
  refine Hs.isT rfl ?_
  have b:=bX l [eT] (i+1) (by omega)
  have p:=aHK hl [eT] (by decide) (i+1)
  generalize ks l [eT] (i+1)=g1 at *
  obtain ⟨g1a,g1b⟩:=b
  refine Hs.parU p (fun h1=>?_) (fun he=>?_)
  rotate_left
  ·repeat' first
    | exact Hs.pure ⟨rfl,rfl,rfl,fun h=>absurd h he,trivial⟩
    | refine Hs.evb (jQ l _ _ he _ (by decide)) ?_
    | refine Hs.evb (aCu l _ _ he) ?_
    | refine Hs.evb (aE8 l _ _ he) ?_
    | refine Hs.evb (iY ..) ?_
    | exact Hs.ev (aEs l _ _ he _) ⟨rfl,rfl,rfl,fun h=>absurd h he,trivial⟩
  have b:=aCj (l:=l) (i:=g1.2.1) (by omega)
  have sN:=aIK (l:=l) (i:=g1.2.1)
  have p:=aUD hl (g1.2.1)
  generalize lgR l (g1.2.1)=g2 at *
  obtain ⟨g2a,g2b⟩:=b
  refine Hs.par p (fun h2 _=>?_) (fun a _ he=>?_)
  rotate_left
  ·repeat' first
    | exact Hs.pure ⟨rfl,rfl,rfl,fun h=>absurd h he,trivial⟩
    | refine Hs.evb (jQ l _ _ he _ (by decide)) ?_
    | refine Hs.evb (aE8 l _ _ he) ?_
    | refine Hs.evb (iY ..) ?_
    | exact Hs.ev (aEs l _ _ he _) ⟨rfl,rfl,rfl,fun h=>absurd h he,trivial⟩
  have sN:=sN h2
  have b:=bX l [[61]] (g2.2.1) (by omega)
  have p:=aHK hl [[61]] (by decide) (g2.2.1)
  generalize ks l [[61]] (g2.2.1)=g3 at *
  obtain ⟨g3a,g3b⟩:=b
  refine Hs.parU p (fun h3=>?_) (fun he=>?_)
  rotate_left
  ·repeat' first
    | exact Hs.pure ⟨rfl,rfl,rfl,fun h=>absurd h he,trivial⟩
    | refine Hs.evb (aE8 l _ _ he) ?_
    | refine Hs.evb (iY ..) ?_
    | exact Hs.ev (aEs l _ _ he _) ⟨rfl,rfl,rfl,fun h=>absurd h he,trivial⟩
  have b:=zT hl (i:=g3.2.1) (by omega)
  have p:=bEn hl (i:=g3.2.1) (by omega)
  generalize tyR l (g3.2.1)=g4 at *
  obtain ⟨g4a,g4b,g4c⟩:=b
  refine Hs.par p (fun h4 _=>?_) (fun a _ he=>?_)
  rotate_left
  ·repeat' first
    | exact Hs.pure ⟨rfl,rfl,rfl,fun h=>absurd h he,trivial⟩
    | refine Hs.evb (iY ..) ?_
    | exact Hs.ev (aEs l _ _ he _) ⟨rfl,rfl,rfl,fun h=>absurd h he,trivial⟩
  have g4c:=g4c h4
  refine Hs.evb (iY ..) ?_
  exact ihSL g4.2.1 (by omega) (by omega) _
 rw [if_neg k0]
 refine Hs.evb (hU (by simpa using k0)) ?_
 refine Hs.isF rfl ?_
 exact Hs.pure ⟨rfl,rfl,rfl,fun _=>rfl,trivial⟩
theorem bDY (ihS:IS l n):IX l (n+1) 1 gK (aBV l (n+1)):=by
 intro i hi hn
 rw [aBV]
 refine Hs.step (fun k=>by rw [gK]) ?_
 by_cases k0:aU l (i:Int) kSg=true
 ·rw [if_pos k0]
  have hin:=aN k0
  refine Hs.evb (pQ hl k0) ?_
  refine Hs.isF rfl ?_
  refine Hs.evb (aI8 ..) ?_
  exact ihS (i+1) (by omega) (by omega) [] (by simp)
 rw [if_neg k0]
 refine Hs.evb (hU (by simpa using k0)) ?_
 refine Hs.isT rfl ?_
 have b:=iJ (l:=l) (i:=i) (by omega)
 have sN:=oZ (l:=l) (i:=i)
 have p:=aI5 hl (i)
 generalize tW l (i)=g1 at *
 obtain ⟨g1a,g1b⟩:=b
 refine Hs.par p (fun h1 _=>?_) (fun a _ he=>?_)
 rotate_left
 ·repeat' first
   | exact Hs.pure ⟨rfl,rfl,rfl,fun h=>absurd h he,trivial⟩
   | refine Hs.evb (aI8 ..) ?_
 have sN:=sN h1
 exact Hs.evb (aI8 ..) (Hs.pure ⟨rfl,rfl,rfl,fun _=>rfl,trivial⟩)
theorem bBC (ihP:IP l n) (ihS:IS l n):IS l (n+1):=by
 intro i hi hn out ho
 rw [vA]
 by_cases hb:bBk l i=true
 ·rw [if_pos (show aAI l i [vC,eT,kY,xA,vQ,yP]=true from hb)]
  unfold bDv
  rw [bAD]
  have b:=bFc hl (n:=n) (i:=i) (by omega)
  have p:=ihP i (by omega) (by omega) hb
  generalize wH l n i=g1 at *
  obtain ⟨g1a,g1b,g1c⟩:=b
  refine Hs.par p (fun h1 hne=>?_) (fun a _ he=>?_)
  ·have g1c:=g1c h1
   obtain ⟨t,j,e⟩:=g1
   cases t with
   | nil=>exact absurd rfl hne
   | node c m s s' kk =>
    refine Hs.step (F:=fun K=>bY K (.node c m s s' kk) l (j:Int) 0 50 0 [] [] out) (fun k=>by rw [bY]) ?_
    refine Hs.opt (dP (by simp; omega)) ?_
    exact ihS j (by omega) (by simp only at g1c; omega) _ (by simp only at g1c; simp; omega)
  ·show Hs (fun K=>bY K a l ((g1.2.1:Nat):Int) g1.2.2 50 0 [] [] out) _
   have tail:∀ out:List Tr,Hs (fun K=>bY K .nil l ((g1.2.1:Nat):Int) g1.2.2 50 0 [] [] out) (QS l TT ((.nil,g1.2.1,g1.2.2):RT)):=fun out=>by
    refine Hs.step (fun k=>by rw [bY]) ?_
    refine Hs.evb (jQ l _ _ he _ (by decide)) ?_
    exact Hs.pure ⟨rfl,rfl,rfl,fun h=>absurd h he,trivial⟩
   cases a with
   | nil=>exact tail out
   | node c m s s' kk =>
    refine Hs.step (fun k=>by rw [bY]) ?_
    refine Hs.opt (dP (by simp; omega)) ?_
    refine Hs.evb (bAj l _ _ he) ?_
    exact tail _
 ·rw [if_neg (show ¬ aAI l i [vC,eT,kY,xA,vQ,yP]=true from hb)]
  refine Hs.evb (bEW (by simpa using hb)) ?_
  refine Hs.step (F:=fun K=>bY K .nil l (i:Int) 0 50 0 [] [] out) (fun k=>by rw [bY]) ?_
  unfold bDv
  rw [aS]
  have b:=bX l [aDK] (i) (by omega)
  have p:=aHK hl [aDK] (by decide) (i)
  generalize ks l [aDK] (i)=g1 at *
  obtain ⟨g1a,g1b⟩:=b
  refine Hs.parU p (fun h1=>?_) (fun he=>?_)
  rotate_left
  ·exact Hs.pure ⟨rfl,rfl,rfl,fun h=>absurd h he,trivial⟩
  exact Hs.pure ⟨rfl,rfl,rfl,fun _=>rfl,trivial⟩
theorem bCF (ihE:IE l n) (ihD:ID l n):ID l (n+1):=by
 intro i hi hn top out ho
 rw [qE]
 by_cases hb:bAb l top i=true
 ·rw [if_pos (show (aAI l i [vC,eT,kY,xA,yI,vQ] || (top && aAI l i [aHH,aHn]))=true from hb)]
  have b:=bIo hl (n:=n) (top:=top) (i:=i) (by omega)
  have p:=ihE i (by omega) (by omega) top hb
  generalize uP l n top i=g1 at *
  obtain ⟨g1a,g1b,g1c⟩:=b
  refine Hs.par p (fun h1 hne=>?_) (fun a _ he=>?_)
  ·have g1c:=g1c h1
   obtain ⟨t,j,e⟩:=g1
   cases t with
   | nil=>exact absurd rfl hne
   | node c m s s' kk =>
    refine Hs.step (F:=fun K=>bM K top out (.node c m s s' kk) l (j:Int) 0) (fun k=>by rw [bM]) ?_
    refine Hs.opt (dP (by simp; omega)) ?_
    exact ihD j (by omega) (by simp only at g1c; omega) _ _ (by simp only at g1c; simp; omega)
  ·show Hs (fun K=>bM K top out a l ((g1.2.1:Nat):Int) g1.2.2) _
   have tail:∀ out:List Tr,Hs (fun K=>bM K top out .nil l ((g1.2.1:Nat):Int) g1.2.2) (QS l TL (([],g1.2.1,g1.2.2):LT)):=fun out=>by
    refine Hs.step (fun k=>by rw [bM]) ?_
    exact Hs.pure ⟨rfl,rfl,rfl,fun h=>absurd h he,trivial⟩
   cases a with
   | nil=>exact tail out
   | node c m s s' kk =>
    refine Hs.step (fun k=>by rw [bM]) ?_
    refine Hs.opt (dP (by simp; omega)) ?_
    refine Hs.evb (bAU l _ _ he _) ?_
    exact tail _
 ·rw [if_neg (show ¬ (aAI l i [vC,eT,kY,xA,yI,vQ] || (top && aAI l i [aHH,aHn]))=true from hb)]
  refine Hs.evb (bEu (by simpa using hb)) ?_
  refine Hs.step (F:=fun K=>bM K top out .nil l (i:Int) 0) (fun k=>by rw [bM]) ?_
  exact Hs.pure ⟨rfl,rfl,rfl,fun _=>rfl,trivial⟩
theorem bEV (ihM:IX l n 2 eG (rD l n)) (ihDs:ID l n):IX l (n+1) 1 gQ (zV l (n+1)):=by
 intro i hi hn
 rw [zV]
 refine Hs.step (fun k=>by rw [gQ]) ?_
 by_cases k0:aU l (i:Int) aIs=true
 ·rw [if_pos k0]
  have hin:=aN k0
  refine Hs.evb (pQ hl k0) ?_
  refine Hs.isT rfl ?_
  have b:=aZ1 hl (n:=n) (top:=false) (out:=[]) (i:=i+1) (by omega)
  have p:=bBo (ihDs (i+1) (by omega) (by omega) false [] (by simp))
  generalize qE l n false [] (i+1)=g1 at *
  obtain ⟨g1a,g1b,g1c⟩:=b
  refine Hs.par p (fun h1 _=>?_) (fun a _ he=>?_)
  rotate_left
  ·repeat' first
    | exact Hs.pure ⟨rfl,rfl,rfl,fun h=>absurd h he,trivial⟩
    | refine Hs.evb (jQ l _ _ he _ (by decide)) ?_
    | refine Hs.evb (iY ..) ?_
  have g1c:=g1c h1
  have b:=bX l [aDK] (g1.2.1) (by omega)
  have p:=aHK hl [aDK] (by decide) (g1.2.1)
  generalize ks l [aDK] (g1.2.1)=g2 at *
  obtain ⟨g2a,g2b⟩:=b
  refine Hs.parU p (fun h2=>?_) (fun he=>?_)
  rotate_left
  ·repeat' first
    | exact Hs.pure ⟨rfl,rfl,rfl,fun h=>absurd h he,trivial⟩
    | refine Hs.evb (iY ..) ?_
  exact Hs.evb (iY ..) (Hs.pure ⟨rfl,rfl,rfl,fun _=>rfl,trivial⟩)
 rw [if_neg k0]
 refine Hs.evb (hU (by simpa using k0)) ?_
 refine Hs.isF rfl ?_
 by_cases k1:aU l (i:Int) [40]=true
 ·rw [if_pos k1]
  have hin:=aN k1
  refine Hs.evb (pQ hl k1) ?_
  refine Hs.isT rfl ?_
  have b:=aXY hl (n:=n) (i:=i+1) (by omega)
  have p:=ihM (i+1) (by omega) (by omega)
  generalize rD l n (i+1)=g1 at *
  obtain ⟨g1a,g1b,g1c⟩:=b
  refine Hs.par p (fun h1 _=>?_) (fun a _ he=>?_)
  rotate_left
  ·repeat' first
    | exact Hs.pure ⟨rfl,rfl,rfl,fun h=>absurd h he,trivial⟩
    | refine Hs.evb (jQ l _ _ he _ (by decide)) ?_
  have g1c:=g1c h1
  have b:=bX l [[41]] (g1.2.1) (by omega)
  have p:=aHK hl [[41]] (by decide) (g1.2.1)
  generalize ks l [[41]] (g1.2.1)=g2 at *
  obtain ⟨g2a,g2b⟩:=b
  refine Hs.parU p (fun h2=>?_) (fun he=>?_)
  rotate_left
  ·exact Hs.pure ⟨rfl,rfl,rfl,fun h=>absurd h he,trivial⟩
  exact Hs.pure ⟨rfl,rfl,rfl,fun _=>rfl,trivial⟩
 rw [if_neg k1]
 refine Hs.evb (hU (by simpa using k1)) ?_
 refine Hs.isF rfl ?_
 have tail:Hs (fun K=>(dB K l (i:Int) 0).bind fun (v36,v37,v38,v39)=>(gR K 41 v36 []).bind fun v40=>some (v40,v37,v38,v39)) (QS l TT (bnd .nil (lgR l i) fun s i=>(.node 41 0 s [] [],i,0))):=by
  have b:=aCj (l:=l) (i:=i) (by omega)
  have sN:=aIK (l:=l) (i:=i)
  have p:=aUD hl (i)
  generalize lgR l (i)=g1 at *
  obtain ⟨g1a,g1b⟩:=b
  refine Hs.par p (fun h1 _=>?_) (fun a _ he=>?_)
  rotate_left
  ·repeat' first
    | exact Hs.pure ⟨rfl,rfl,rfl,fun h=>absurd h he,trivial⟩
    | refine Hs.evb (iY ..) ?_
  have sN:=sN h1
  exact Hs.evb (iY ..) (Hs.pure ⟨rfl,rfl,rfl,fun _=>rfl,trivial⟩)
 refine Hs.evb (aC9 l i) ?_
 by_cases k2:(kS l (i:Int)).2=true∧aU l ((i+1:Nat):Int) [40]=true
 ·rw [if_pos k2]
  have hin:=aN k2.2
  generalize kS l (i:Int)=N at *
  obtain ⟨s,bb⟩:=N
  simp only at k2 ⊢
  refine Hs.isT k2.1 ?_
  rw [wr1 (by omega),wr2 (by omega)]
  refine Hs.evb (aC3 l _ _) ?_
  refine Hs.isT k2.2 ?_
  refine Hs.d (fun _=>?_) (fun h=>absurd trivial h)
  refine Hs.step (fun k=>by rw [nY]) ?_
  have b:=aXY hl (n:=n) (i:=i+2) (by omega)
  have p:=ihM (i+2) (by omega) (by omega)
  generalize rD l n (i+2)=g1 at *
  obtain ⟨g1a,g1b,g1c⟩:=b
  refine Hs.par p (fun h1 _=>?_) (fun a _ he=>?_)
  rotate_left
  ·repeat' first
    | exact Hs.pure ⟨rfl,rfl,rfl,fun h=>absurd h he,trivial⟩
    | refine Hs.evb (jQ l _ _ he _ (by decide)) ?_
    | refine Hs.evb (iY ..) ?_
  have g1c:=g1c h1
  have b:=bX l [[41]] (g1.2.1) (by omega)
  have p:=aHK hl [[41]] (by decide) (g1.2.1)
  generalize ks l [[41]] (g1.2.1)=g2 at *
  obtain ⟨g2a,g2b⟩:=b
  refine Hs.parU p (fun h2=>?_) (fun he=>?_)
  rotate_left
  ·repeat' first
    | exact Hs.pure ⟨rfl,rfl,rfl,fun h=>absurd h he,trivial⟩
    | refine Hs.evb (iY ..) ?_
  exact Hs.evb (iY ..) (Hs.pure ⟨rfl,rfl,rfl,fun _=>rfl,trivial⟩)
 rw [if_neg k2]
 generalize kS l (i:Int)=N at *
 obtain ⟨s,bb⟩:=N
 simp only at k2 ⊢
 refine Hs.is (fun hb=>?_) (fun _=>tail)
 rw [wr1 (by omega)]
 refine Hs.evb (aC3 l _ _) ?_
 exact Hs.is (fun hk=>absurd ⟨hb,hk⟩ k2) (fun _=>tail)
theorem bEZ (ihS:IX l n 2 dJ (lQ l n)):IP l (n+1):=by
 intro i hi hn hb
 rw [wH]
 refine Hs.step (fun k=>by rw [eS]) ?_
 by_cases k0:aU l (i:Int) vC=true
 ·rw [if_pos k0]
  have hin:=aN k0
  refine Hs.evb (pQ hl k0) ?_
  refine Hs.isT rfl ?_
  have b:=iJ (l:=l) (i:=i+1) (by omega)
  have sN:=oZ (l:=l) (i:=i+1)
  have p:=aI5 hl (i+1)
  generalize tW l (i+1)=g1 at *
  obtain ⟨g1a,g1b⟩:=b
  refine Hs.par p (fun h1 _=>?_) (fun a _ he=>?_)
  rotate_left
  ·repeat' first
    | exact Hs.pure ⟨rfl,rfl,rfl,fun h=>absurd h he,nofun⟩
    | refine Hs.evb (aUM l _ _ he _) ?_
    | refine Hs.evb (iY ..) ?_
  have sN:=sN h1
  have b:=sK (s:=[58]) (f:=fun j=>tyR l j) (i:=g1.2.1) (by omega) (fun j hj=>zT hl hj)
  have p:=bFd hl [58] (i:=g1.2.1) (by omega)
  generalize bhd .nil l [58] (fun j=>tyR l j) (g1.2.1)=g2 at *
  obtain ⟨g2a,g2b,g2c⟩:=b
  refine Hs.par p (fun h2 _=>?_) (fun a _ he=>?_)
  rotate_left
  ·repeat' first
    | exact Hs.pure ⟨rfl,rfl,rfl,fun h=>absurd h he,nofun⟩
    | refine Hs.evb (iY ..) ?_
  have g2c:=g2c h2
  exact Hs.evb (iY ..) (Hs.pure ⟨rfl,rfl,rfl,fun _=>rfl,nofun⟩)
 rw [if_neg k0]
 refine Hs.evb (hU (by simpa using k0)) ?_
 refine Hs.isF rfl ?_
 by_cases k1:aU l (i:Int) eT=true
 ·rw [if_pos k1]
  have hin:=aN k1
  refine Hs.evb (pQ hl k1) ?_
  refine Hs.isT rfl ?_
  have b:=iJ (l:=l) (i:=i+1) (by omega)
  have sN:=oZ (l:=l) (i:=i+1)
  have p:=aI5 hl (i+1)
  generalize tW l (i+1)=g1 at *
  obtain ⟨g1a,g1b⟩:=b
  refine Hs.par p (fun h1 _=>?_) (fun a _ he=>?_)
  rotate_left
  ·repeat' first
    | exact Hs.pure ⟨rfl,rfl,rfl,fun h=>absurd h he,nofun⟩
    | refine Hs.evb (aE8 l _ _ he) ?_
    | refine Hs.evb (iY ..) ?_
    | refine Hs.evb (lU l _ _ he _) ?_
    | refine Hs.isF rfl ?_
    | refine Hs.isT rfl ?_
  have sN:=sN h1
  by_cases j1:aU l (g1.2.1:Int) [61]=true
  ·rw [if_pos j1]
   have hin2:=aN j1
   refine Hs.evb (pQ hl j1) ?_
   refine Hs.isF rfl ?_
   have b:=zT hl (i:=g1.2.1+1) (by omega)
   have p:=bEn hl (i:=g1.2.1+1) (by omega)
   generalize tyR l (g1.2.1+1)=g2 at *
   obtain ⟨g2a,g2b,g2c⟩:=b
   refine Hs.par p (fun h2 _=>?_) (fun a _ he=>?_)
   rotate_left
   ·repeat' first
     | exact Hs.pure ⟨rfl,rfl,rfl,fun h=>absurd h he,nofun⟩
     | refine Hs.evb (iY ..) ?_
   have g2c:=g2c h2
   exact Hs.evb (iY ..) (Hs.pure ⟨rfl,rfl,rfl,fun _=>rfl,nofun⟩)
  rw [if_neg j1]
  refine Hs.evb (hU (by simpa using j1)) ?_
  refine Hs.isT rfl ?_
  exact Hs.evb (iY ..) (Hs.pure ⟨rfl,rfl,rfl,fun _=>rfl,nofun⟩)
 rw [if_neg k1]
 refine Hs.evb (hU (by simpa using k1)) ?_
 refine Hs.isF rfl ?_
 by_cases k2:aU l (i:Int) kY=true
 ·rw [if_pos k2]
  have hin:=aN k2
  refine Hs.evb (pQ hl k2) ?_
  refine Hs.isT rfl ?_
  have b:=iJ (l:=l) (i:=i+1) (by omega)
  have sN:=oZ (l:=l) (i:=i+1)
  have p:=aI5 hl (i+1)
  generalize tW l (i+1)=g1 at *
  obtain ⟨g1a,g1b⟩:=b
  refine Hs.par p (fun h1 _=>?_) (fun a _ he=>?_)
  rotate_left
  ·repeat' first
    | exact Hs.pure ⟨rfl,rfl,rfl,fun h=>absurd h he,nofun⟩
    | refine Hs.evb (jQ l _ _ he _ (by decide)) ?_
    | refine Hs.evb (aK4 l _ _ he) ?_
    | refine Hs.evb (iY ..) ?_
  have sN:=sN h1
  have b:=bX l [[61]] (g1.2.1) (by omega)
  have p:=aHK hl [[61]] (by decide) (g1.2.1)
  generalize ks l [[61]] (g1.2.1)=g2 at *
  obtain ⟨g2a,g2b⟩:=b
  refine Hs.parU p (fun h2=>?_) (fun he=>?_)
  rotate_left
  ·repeat' first
    | exact Hs.pure ⟨rfl,rfl,rfl,fun h=>absurd h he,nofun⟩
    | refine Hs.evb (aK4 l _ _ he) ?_
    | refine Hs.evb (iY ..) ?_
  have b:=aVa hl (i:=g2.2.1) (by omega)
  have p:=bFw hl (i:=g2.2.1) (by omega)
  generalize cnR l (g2.2.1)=g3 at *
  obtain ⟨g3a,g3b,g3c⟩:=b
  refine Hs.par p (fun h3 _=>?_) (fun a _ he=>?_)
  rotate_left
  ·repeat' first
    | exact Hs.pure ⟨rfl,rfl,rfl,fun h=>absurd h he,nofun⟩
    | refine Hs.evb (iY ..) ?_
  have g3c:=g3c h3
  exact Hs.evb (iY ..) (Hs.pure ⟨rfl,rfl,rfl,fun _=>rfl,nofun⟩)
 rw [if_neg k2]
 refine Hs.evb (hU (by simpa using k2)) ?_
 refine Hs.isF rfl ?_
 by_cases k3:aU l (i:Int) xA=true
 ·rw [if_pos k3]
  have hin:=aN k3
  refine Hs.evb (pQ hl k3) ?_
  refine Hs.isT rfl ?_
  have b:=iJ (l:=l) (i:=i+1) (by omega)
  have sN:=oZ (l:=l) (i:=i+1)
  have p:=aI5 hl (i+1)
  generalize tW l (i+1)=g1 at *
  obtain ⟨g1a,g1b⟩:=b
  refine Hs.par p (fun h1 _=>?_) (fun a _ he=>?_)
  rotate_left
  ·repeat' first
    | exact Hs.pure ⟨rfl,rfl,rfl,fun h=>absurd h he,nofun⟩
    | refine Hs.evb (aHt l _ _ he _) ?_
    | refine Hs.evb (iY ..) ?_
  have sN:=sN h1
  have b:=sK (s:=[58]) (f:=fun j=>lQ l n j) (i:=g1.2.1) (by omega) (fun j hj=>aQC hl hj)
  have p:=bBc hl ihS (s:=[58]) (i:=g1.2.1) (by omega) (by omega)
  generalize bhd .nil l [58] (fun j=>lQ l n j) (g1.2.1)=g2 at *
  obtain ⟨g2a,g2b,g2c⟩:=b
  refine Hs.par p (fun h2 _=>?_) (fun a _ he=>?_)
  rotate_left
  ·repeat' first
    | exact Hs.pure ⟨rfl,rfl,rfl,fun h=>absurd h he,nofun⟩
    | refine Hs.evb (iY ..) ?_
  have g2c:=g2c h2
  exact Hs.evb (iY ..) (Hs.pure ⟨rfl,rfl,rfl,fun _=>rfl,nofun⟩)
 rw [if_neg k3]
 refine Hs.evb (hU (by simpa using k3)) ?_
 refine Hs.isF rfl ?_
 by_cases k4:aU l (i:Int) vQ=true
 ·rw [if_pos k4]
  have hin:=aN k4
  refine Hs.evb (pQ hl k4) ?_
  refine Hs.isT rfl ?_
  have b:=aQC hl (n:=n) (i:=i+1) (by omega)
  have p:=ihS (i+1) (by omega) (by omega)
  generalize lQ l n (i+1)=g1 at *
  obtain ⟨g1a,g1b,g1c⟩:=b
  refine Hs.par p (fun h1 _=>?_) (fun a _ he=>?_)
  rotate_left
  ·repeat' first
    | exact Hs.pure ⟨rfl,rfl,rfl,fun h=>absurd h he,nofun⟩
    | refine Hs.evb (iY ..) ?_
  have g1c:=g1c h1
  exact Hs.evb (iY ..) (Hs.pure ⟨rfl,rfl,rfl,fun _=>rfl,nofun⟩)
 rw [if_neg k4]
 refine Hs.evb (hU (by simpa using k4)) ?_
 refine Hs.isF rfl ?_
 by_cases k5:aU l (i:Int) yP=true
 ·rw [if_pos k5]
  have hin:=aN k5
  refine Hs.evb (pQ hl k5) ?_
  refine Hs.isT rfl ?_
  have b:=bX l [eT] (i+1) (by omega)
  have p:=aHK hl [eT] (by decide) (i+1)
  generalize ks l [eT] (i+1)=g1 at *
  obtain ⟨g1a,g1b⟩:=b
  refine Hs.parU p (fun h1=>?_) (fun he=>?_)
  rotate_left
  ·repeat' first
    | exact Hs.pure ⟨rfl,rfl,rfl,fun h=>absurd h he,nofun⟩
    | refine Hs.evb (jQ l _ _ he _ (by decide)) ?_
    | refine Hs.evb (aCu l _ _ he) ?_
  have b:=aCj (l:=l) (i:=g1.2.1) (by omega)
  have sN:=aIK (l:=l) (i:=g1.2.1)
  have p:=aUD hl (g1.2.1)
  generalize lgR l (g1.2.1)=g2 at *
  obtain ⟨g2a,g2b⟩:=b
  refine Hs.par p (fun h2 _=>?_) (fun a _ he=>?_)
  rotate_left
  ·repeat' first
    | exact Hs.pure ⟨rfl,rfl,rfl,fun h=>absurd h he,nofun⟩
    | refine Hs.evb (jQ l _ _ he _ (by decide)) ?_
    | refine Hs.evb (aCu l _ _ he) ?_
  have sN:=sN h2
  have b:=bX l [[61]] (g2.2.1) (by omega)
  have p:=aHK hl [[61]] (by decide) (g2.2.1)
  generalize ks l [[61]] (g2.2.1)=g3 at *
  obtain ⟨g3a,g3b⟩:=b
  refine Hs.parU p (fun h3=>?_) (fun he=>?_)
  rotate_left
  ·repeat' first
    | exact Hs.pure ⟨rfl,rfl,rfl,fun h=>absurd h he,nofun⟩
    | refine Hs.evb (aCu l _ _ he) ?_
  have b:=aCj (l:=l) (i:=g3.2.1) (by omega)
  have sN:=aIK (l:=l) (i:=g3.2.1)
  have p:=aUD hl (g3.2.1)
  generalize lgR l (g3.2.1)=g4 at *
  obtain ⟨g4a,g4b⟩:=b
  refine Hs.par p (fun h4 _=>?_) (fun a _ he=>?_)
  rotate_left
  ·exact Hs.pure ⟨rfl,rfl,rfl,fun h=>absurd h he,nofun⟩
  have sN:=sN h4
  exact Hs.pure ⟨rfl,rfl,rfl,fun _=>rfl,nofun⟩
 rw [if_neg k5]
 refine Hs.evb (hU (by simpa using k5)) ?_
 refine Hs.isF rfl ?_
 exact absurd hb (by simp [bBk,aAI,k0,k1,k2,k3,k4,k5])
theorem bDO (ihS:IX l n 2 dJ (lQ l n)) (ihM:IX l n 2 eG (rD l n)):IE l (n+1):=by
 intro i hi hn top hb
 rw [uP]
 refine Hs.step (fun k=>by rw [eF]) ?_
 by_cases k0:aU l (i:Int) vC=true
 ·rw [if_pos k0]
  have hin:=aN k0
  refine Hs.evb (pQ hl k0) ?_
  refine Hs.isT rfl ?_
  have b:=iJ (l:=l) (i:=i+1) (by omega)
  have sN:=oZ (l:=l) (i:=i+1)
  have p:=aI5 hl (i+1)
  generalize tW l (i+1)=g1 at *
  obtain ⟨g1a,g1b⟩:=b
  refine Hs.par p (fun h1 _=>?_) (fun a _ he=>?_)
  rotate_left
  ·repeat' first
    | exact Hs.pure ⟨rfl,rfl,rfl,fun h=>absurd h he,nofun⟩
    | refine Hs.evb (aE8 l _ _ he) ?_
    | refine Hs.evb (aTj l _ _ he _) ?_
    | refine Hs.evb (aI8 ..) ?_
    | refine Hs.opt (dP (by simp; omega)) ?_
    | refine Hs.evb (lU l _ _ he _) ?_
    | refine Hs.isF rfl ?_
    | refine Hs.isT rfl ?_
    | refine Hs.step (F:=fun K=>cJ K _ _ _ _ _ _ _ _) (fun k=>by rw [cJ]) ?_
  have sN:=sN h1
  refine Hs.evb (aI8 ..) ?_
  by_cases j0:aU l (g1.2.1:Int) [58]=true
  ·rw [if_pos j0]
   have hin2:=aN j0
   refine Hs.evb (pQ hl j0) ?_
   refine Hs.isT rfl ?_
   have b:=zT hl (i:=g1.2.1+1) (by omega)
   have p:=bEn hl (i:=g1.2.1+1) (by omega)
   generalize tyR l (g1.2.1+1)=g2 at *
   obtain ⟨g2a,g2b,g2c⟩:=b
   refine Hs.par p (fun h2 _=>?_) (fun a _ he=>?_)
   rotate_left
   ·repeat' first
     | exact Hs.pure ⟨rfl,rfl,rfl,fun h=>absurd h he,nofun⟩
     | refine Hs.evb (aTj l _ _ he _) ?_
     | refine Hs.opt (dP (by simp; omega)) ?_
     | refine Hs.step (F:=fun K=>cJ K _ _ _ _ _ _ _ _) (fun k=>by rw [cJ]) ?_
   have g2c:=g2c h2
   refine Hs.opt (dP (by simp)) ?_
   refine Hs.step (F:=fun K=>cJ K _ _ _ _ _ _ _ _) (fun k=>by rw [cJ]) ?_
   have b:=sK (s:=[61]) (f:=fun j=>exR l j) (i:=g2.2.1) (by omega) (fun j hj=>aU1 hl hj)
   have p:=bCw hl [61] (i:=g2.2.1) (by omega)
   generalize bhd .nil l [61] (fun j=>exR l j) (g2.2.1)=g3 at *
   obtain ⟨g3a,g3b,g3c⟩:=b
   refine Hs.par p (fun h3 _=>?_) (fun a _ he=>?_)
   rotate_left
   ·repeat' first
     | exact Hs.pure ⟨rfl,rfl,rfl,fun h=>absurd h he,nofun⟩
     | refine Hs.opt (dP (by simp; omega)) ?_
   have g3c:=g3c h3
   refine Hs.opt (dP (by simp)) ?_
   exact Hs.pure ⟨rfl,rfl,rfl,fun _=>rfl,nofun⟩
  rw [if_neg j0]
  refine Hs.evb (hU (by simpa using j0)) ?_
  refine Hs.isF rfl ?_
  refine Hs.step (F:=fun K=>cJ K _ _ _ _ _ _ _ _) (fun k=>by rw [cJ]) ?_
  have b:=sK (s:=[61]) (f:=fun j=>exR l j) (i:=g1.2.1) (by omega) (fun j hj=>aU1 hl hj)
  have p:=bCw hl [61] (i:=g1.2.1) (by omega)
  generalize bhd .nil l [61] (fun j=>exR l j) (g1.2.1)=g2 at *
  obtain ⟨g2a,g2b,g2c⟩:=b
  refine Hs.par p (fun h2 _=>?_) (fun a _ he=>?_)
  rotate_left
  ·repeat' first
    | exact Hs.pure ⟨rfl,rfl,rfl,fun h=>absurd h he,nofun⟩
    | refine Hs.opt (dP (by simp; omega)) ?_
  have g2c:=g2c h2
  refine Hs.opt (dP (by simp)) ?_
  exact Hs.pure ⟨rfl,rfl,rfl,fun _=>rfl,nofun⟩
 rw [if_neg k0]
 refine Hs.evb (hU (by simpa using k0)) ?_
 refine Hs.isF rfl ?_
 by_cases k1:aU l (i:Int) eT=true
 ·rw [if_pos k1]
  have hin:=aN k1
  refine Hs.evb (pQ hl k1) ?_
  refine Hs.isT rfl ?_
  have b:=iJ (l:=l) (i:=i+1) (by omega)
  have sN:=oZ (l:=l) (i:=i+1)
  have p:=aI5 hl (i+1)
  generalize tW l (i+1)=g1 at *
  obtain ⟨g1a,g1b⟩:=b
  refine Hs.par p (fun h1 _=>?_) (fun a _ he=>?_)
  rotate_left
  ·repeat' first
    | exact Hs.pure ⟨rfl,rfl,rfl,fun h=>absurd h he,nofun⟩
    | refine Hs.evb (aUM l _ _ he _) ?_
    | refine Hs.evb (iY ..) ?_
  have sN:=sN h1
  have b:=sK (s:=[61]) (f:=fun j=>tyR l j) (i:=g1.2.1) (by omega) (fun j hj=>zT hl hj)
  have p:=bFd hl [61] (i:=g1.2.1) (by omega)
  generalize bhd .nil l [61] (fun j=>tyR l j) (g1.2.1)=g2 at *
  obtain ⟨g2a,g2b,g2c⟩:=b
  refine Hs.par p (fun h2 _=>?_) (fun a _ he=>?_)
  rotate_left
  ·repeat' first
    | exact Hs.pure ⟨rfl,rfl,rfl,fun h=>absurd h he,nofun⟩
    | refine Hs.evb (iY ..) ?_
  have g2c:=g2c h2
  exact Hs.evb (iY ..) (Hs.pure ⟨rfl,rfl,rfl,fun _=>rfl,nofun⟩)
 rw [if_neg k1]
 refine Hs.evb (hU (by simpa using k1)) ?_
 refine Hs.isF rfl ?_
 by_cases k2:aU l (i:Int) kY=true
 ·rw [if_pos k2]
  have hin:=aN k2
  refine Hs.evb (pQ hl k2) ?_
  refine Hs.isT rfl ?_
  have b:=iJ (l:=l) (i:=i+1) (by omega)
  have sN:=oZ (l:=l) (i:=i+1)
  have p:=aI5 hl (i+1)
  generalize tW l (i+1)=g1 at *
  obtain ⟨g1a,g1b⟩:=b
  refine Hs.par p (fun h1 _=>?_) (fun a _ he=>?_)
  rotate_left
  ·repeat' first
    | exact Hs.pure ⟨rfl,rfl,rfl,fun h=>absurd h he,nofun⟩
    | refine Hs.evb (jQ l _ _ he _ (by decide)) ?_
    | refine Hs.evb (aK4 l _ _ he) ?_
    | refine Hs.evb (iY ..) ?_
  have sN:=sN h1
  have b:=bX l [[61]] (g1.2.1) (by omega)
  have p:=aHK hl [[61]] (by decide) (g1.2.1)
  generalize ks l [[61]] (g1.2.1)=g2 at *
  obtain ⟨g2a,g2b⟩:=b
  refine Hs.parU p (fun h2=>?_) (fun he=>?_)
  rotate_left
  ·repeat' first
    | exact Hs.pure ⟨rfl,rfl,rfl,fun h=>absurd h he,nofun⟩
    | refine Hs.evb (aK4 l _ _ he) ?_
    | refine Hs.evb (iY ..) ?_
  have b:=aVa hl (i:=g2.2.1) (by omega)
  have p:=bFw hl (i:=g2.2.1) (by omega)
  generalize cnR l (g2.2.1)=g3 at *
  obtain ⟨g3a,g3b,g3c⟩:=b
  refine Hs.par p (fun h3 _=>?_) (fun a _ he=>?_)
  rotate_left
  ·repeat' first
    | exact Hs.pure ⟨rfl,rfl,rfl,fun h=>absurd h he,nofun⟩
    | refine Hs.evb (iY ..) ?_
  have g3c:=g3c h3
  exact Hs.evb (iY ..) (Hs.pure ⟨rfl,rfl,rfl,fun _=>rfl,nofun⟩)
 rw [if_neg k2]
 refine Hs.evb (hU (by simpa using k2)) ?_
 refine Hs.isF rfl ?_
 by_cases k3:aU l (i:Int) xA=true
 ·rw [if_pos k3]
  have hin:=aN k3
  refine Hs.evb (pQ hl k3) ?_
  refine Hs.isT rfl ?_
  have b:=iJ (l:=l) (i:=i+1) (by omega)
  have sN:=oZ (l:=l) (i:=i+1)
  have p:=aI5 hl (i+1)
  generalize tW l (i+1)=g1 at *
  obtain ⟨g1a,g1b⟩:=b
  refine Hs.par p (fun h1 _=>?_) (fun a _ he=>?_)
  rotate_left
  ·repeat' first
    | exact Hs.pure ⟨rfl,rfl,rfl,fun h=>absurd h he,nofun⟩
    | refine Hs.evb (aEA l _ _ he _) ?_
    | refine Hs.evb (iY ..) ?_
  have sN:=sN h1
  have b:=sK (s:=[61]) (f:=fun j=>rD l n j) (i:=g1.2.1) (by omega) (fun j hj=>aXY hl hj)
  have p:=bFH hl ihM (s:=[61]) (i:=g1.2.1) (by omega) (by omega)
  generalize bhd .nil l [61] (fun j=>rD l n j) (g1.2.1)=g2 at *
  obtain ⟨g2a,g2b,g2c⟩:=b
  refine Hs.par p (fun h2 _=>?_) (fun a _ he=>?_)
  rotate_left
  ·repeat' first
    | exact Hs.pure ⟨rfl,rfl,rfl,fun h=>absurd h he,nofun⟩
    | refine Hs.evb (iY ..) ?_
  have g2c:=g2c h2
  exact Hs.evb (iY ..) (Hs.pure ⟨rfl,rfl,rfl,fun _=>rfl,nofun⟩)
 rw [if_neg k3]
 refine Hs.evb (hU (by simpa using k3)) ?_
 refine Hs.isF rfl ?_
 by_cases k4:aU l (i:Int) yI=true
 ·rw [if_pos k4]
  have hin:=aN k4
  refine Hs.evb (pQ hl k4) ?_
  refine Hs.isT rfl ?_
  have b:=aCj (l:=l) (i:=i+1) (by omega)
  have sN:=aIK (l:=l) (i:=i+1)
  have p:=aUD hl (i+1)
  generalize lgR l (i+1)=g1 at *
  obtain ⟨g1a,g1b⟩:=b
  refine Hs.par p (fun h1 _=>?_) (fun a _ he=>?_)
  rotate_left
  ·repeat' first
    | exact Hs.pure ⟨rfl,rfl,rfl,fun h=>absurd h he,nofun⟩
    | refine Hs.evb (aI8 ..) ?_
  have sN:=sN h1
  exact Hs.evb (aI8 ..) (Hs.pure ⟨rfl,rfl,rfl,fun _=>rfl,nofun⟩)
 rw [if_neg k4]
 refine Hs.evb (hU (by simpa using k4)) ?_
 refine Hs.isF rfl ?_
 by_cases k5:aU l (i:Int) vQ=true
 ·rw [if_pos k5]
  have hin:=aN k5
  refine Hs.evb (pQ hl k5) ?_
  refine Hs.isT rfl ?_
  have b:=aCj (l:=l) (i:=i+1) (by omega)
  have sN:=aIK (l:=l) (i:=i+1)
  have p:=aUD hl (i+1)
  generalize lgR l (i+1)=g1 at *
  obtain ⟨g1a,g1b⟩:=b
  refine Hs.par p (fun h1 _=>?_) (fun a _ he=>?_)
  rotate_left
  ·repeat' first
    | exact Hs.pure ⟨rfl,rfl,rfl,fun h=>absurd h he,nofun⟩
    | refine Hs.evb (aI8 ..) ?_
  have sN:=sN h1
  exact Hs.evb (aI8 ..) (Hs.pure ⟨rfl,rfl,rfl,fun _=>rfl,nofun⟩)
 rw [if_neg k5]
 refine Hs.evb (hU (by simpa using k5)) ?_
 refine Hs.isF rfl ?_
 cases top with
 | false=>exact absurd hb (by simp [bAb,aAI,k0,k1,k2,k3,k4,k5])
 | true =>
 refine Hs.isT rfl ?_
 by_cases k6:aU l (i:Int) aHH=true
 ·rw [if_pos ⟨rfl,k6⟩]
  have hin:=aN k6
  refine Hs.evb (pQ hl k6) ?_
  refine Hs.isT rfl ?_
  have b:=iJ (l:=l) (i:=i+1) (by omega)
  have sN:=oZ (l:=l) (i:=i+1)
  have p:=aI5 hl (i+1)
  generalize tW l (i+1)=g1 at *
  obtain ⟨g1a,g1b⟩:=b
  refine Hs.par p (fun h1 _=>?_) (fun a _ he=>?_)
  rotate_left
  ·repeat' first
    | exact Hs.pure ⟨rfl,rfl,rfl,fun h=>absurd h he,nofun⟩
    | refine Hs.evb (aHt l _ _ he _) ?_
    | refine Hs.evb (iY ..) ?_
  have sN:=sN h1
  have b:=sK (s:=[61]) (f:=fun j=>lQ l n j) (i:=g1.2.1) (by omega) (fun j hj=>aQC hl hj)
  have p:=bBc hl ihS (s:=[61]) (i:=g1.2.1) (by omega) (by omega)
  generalize bhd .nil l [61] (fun j=>lQ l n j) (g1.2.1)=g2 at *
  obtain ⟨g2a,g2b,g2c⟩:=b
  refine Hs.par p (fun h2 _=>?_) (fun a _ he=>?_)
  rotate_left
  ·repeat' first
    | exact Hs.pure ⟨rfl,rfl,rfl,fun h=>absurd h he,nofun⟩
    | refine Hs.evb (iY ..) ?_
  have g2c:=g2c h2
  exact Hs.evb (iY ..) (Hs.pure ⟨rfl,rfl,rfl,fun _=>rfl,nofun⟩)
 rw [if_neg (fun h=>k6 h.2)]
 refine Hs.evb (hU (by simpa using k6)) ?_
 refine Hs.isF rfl ?_
 by_cases k7:aU l (i:Int) aHn=true
 ·rw [if_pos ⟨rfl,k7⟩]
  have hin:=aN k7
  refine Hs.evb (pQ hl k7) ?_
  refine Hs.isT rfl ?_
  have b:=iJ (l:=l) (i:=i+1) (by omega)
  have sN:=oZ (l:=l) (i:=i+1)
  have p:=aI5 hl (i+1)
  generalize tW l (i+1)=g1 at *
  obtain ⟨g1a,g1b⟩:=b
  refine Hs.par p (fun h1 _=>?_) (fun a _ he=>?_)
  rotate_left
  ·repeat' first
    | exact Hs.pure ⟨rfl,rfl,rfl,fun h=>absurd h he,nofun⟩
    | refine Hs.evb (jQ l _ _ he _ (by decide)) ?_
    | refine Hs.evb (aO6 l _ _ he) ?_
    | refine Hs.evb (aHt l _ _ he _) ?_
    | refine Hs.evb (aEA l _ _ he _) ?_
    | refine Hs.evb (aI8 ..) ?_
    | refine Hs.step (F:=fun K=>gV K _ _ _ _ _ _ _) (fun k=>by rw [gV]) ?_
  have sN:=sN h1
  refine Hs.evb (aI8 ..) ?_
  refine Hs.step (F:=fun K=>gV K _ _ _ _ _ _ _) (fun k=>by rw [gV]) ?_
  have b:=bX l [[40]] (g1.2.1) (by omega)
  have p:=aHK hl [[40]] (by decide) (g1.2.1)
  generalize ks l [[40]] (g1.2.1)=g2 at *
  obtain ⟨g2a,g2b⟩:=b
  refine Hs.parU p (fun h2=>?_) (fun he=>?_)
  rotate_left
  ·repeat' first
    | exact Hs.pure ⟨rfl,rfl,rfl,fun h=>absurd h he,nofun⟩
    | refine Hs.evb (jQ l _ _ he _ (by decide)) ?_
    | refine Hs.evb (aO6 l _ _ he) ?_
    | refine Hs.evb (aHt l _ _ he _) ?_
    | refine Hs.evb (aEA l _ _ he _) ?_
  have b:=iJ (l:=l) (i:=g2.2.1) (by omega)
  have sN:=oZ (l:=l) (i:=g2.2.1)
  have p:=aI5 hl (g2.2.1)
  generalize tW l (g2.2.1)=g3 at *
  obtain ⟨g3a,g3b⟩:=b
  refine Hs.par p (fun h3 _=>?_) (fun a _ he=>?_)
  rotate_left
  ·repeat' first
    | exact Hs.pure ⟨rfl,rfl,rfl,fun h=>absurd h he,nofun⟩
    | refine Hs.evb (jQ l _ _ he _ (by decide)) ?_
    | refine Hs.evb (aHt l _ _ he _) ?_
    | refine Hs.evb (aEA l _ _ he _) ?_
  have sN:=sN h3
  have b:=sK (s:=[58]) (f:=fun j=>lQ l n j) (i:=g3.2.1) (by omega) (fun j hj=>aQC hl hj)
  have p:=bBc hl ihS (s:=[58]) (i:=g3.2.1) (by omega) (by omega)
  generalize bhd .nil l [58] (fun j=>lQ l n j) (g3.2.1)=g4 at *
  obtain ⟨g4a,g4b,g4c⟩:=b
  refine Hs.par p (fun h4 _=>?_) (fun a _ he=>?_)
  rotate_left
  ·repeat' first
    | exact Hs.pure ⟨rfl,rfl,rfl,fun h=>absurd h he,nofun⟩
    | refine Hs.evb (jQ l _ _ he _ (by decide)) ?_
    | refine Hs.evb (aEA l _ _ he _) ?_
  have g4c:=g4c h4
  have b:=bX l [[41]] (g4.2.1) (by omega)
  have p:=aHK hl [[41]] (by decide) (g4.2.1)
  generalize ks l [[41]] (g4.2.1)=g5 at *
  obtain ⟨g5a,g5b⟩:=b
  refine Hs.parU p (fun h5=>?_) (fun he=>?_)
  rotate_left
  ·repeat' first
    | exact Hs.pure ⟨rfl,rfl,rfl,fun h=>absurd h he,nofun⟩
    | refine Hs.evb (aEA l _ _ he _) ?_
  have b:=sK (s:=[61]) (f:=fun j=>rD l n j) (i:=g5.2.1) (by omega) (fun j hj=>aXY hl hj)
  have p:=bFH hl ihM (s:=[61]) (i:=g5.2.1) (by omega) (by omega)
  generalize bhd .nil l [61] (fun j=>rD l n j) (g5.2.1)=g6 at *
  obtain ⟨g6a,g6b,g6c⟩:=b
  refine Hs.par p (fun h6 _=>?_) (fun a _ he=>?_)
  rotate_left
  ·exact Hs.pure ⟨rfl,rfl,rfl,fun h=>absurd h he,nofun⟩
  have g6c:=g6c h6
  exact Hs.pure ⟨rfl,rfl,rfl,fun _=>rfl,nofun⟩
 rw [if_neg (fun h=>k7 h.2)]
 refine Hs.evb (hU (by simpa using k7)) ?_
 refine Hs.isF rfl ?_
 exact absurd hb (by simp [bAb,aAI,k0,k1,k2,k3,k4,k5,k6,k7])
theorem bHw:∀ n,IX l n 2 eG (rD l n)∧IL l n dD (aBa l n)∧IX l n 1 gQ (zV l n)∧IX l n 2 dJ (lQ l n)∧IL l n dY (aCd l n)∧IX l n 1 gK (aBV l n) ∧
  IS l n∧IP l n∧ID l n∧IE l n:=by
 intro n
 induction n with
 | zero=>exact ⟨aCX (by decide),aNP,aCX (by decide),aCX (by decide),aNP,aCX (by decide),fun j _ h=>by omega,fun j _ h=>by omega,fun j _ h=>by omega,fun j _ h=>by omega⟩
 | succ n ih =>
  obtain ⟨i1,i2,i3,i4,i5,i6,i7,i8,i9,i10⟩:=ih
  exact ⟨bFT hl i3 i2,bER hl i4 i2,bEV hl i1 i9,bF3 hl i6 i5,bEc hl i5,bDY hl i7,bBC hl i8 i7,bEZ hl i4,bCF hl i10 i9,bDO hl i4 i1⟩
end
end Go.Proofs.YtjhfgiieicloeaaGreatDoor

/- The program's parser of modules, at any place. -/
namespace Go.Proofs.YtjhfgiieicloeaaGreatDoor
open Go Go.Am Go.Sx
def bIg (g:LT):List Tr×Int×Int:=(if g.2.2=0 then g.1 else [],((g.2.1:Nat):Int),g.2.2)
section
variable {l:List aF} (hl:l.length≤20000)
include hl
theorem bEM {i:Int} (h:0≤i∧i≤(l.length:Int)):Ev (fun K=>aE3 K l i) (l,i,0):=by
 have:=hl
 refine Ev.congr (f:=fun K=>_) ?_ (fun k=>by rw [aE3])
 exact Ev.dF (by omega) (Ev.dF (by omega) Ev.pure)
theorem bE4 {n i:Nat} {top:Bool} (hi:i≤l.length) (hn:8 * (l.length - i)+2≤n):Ev (fun K=>aE2 K l (i:Int) top) (bIg (qE l n top [] i)):=by
 obtain ⟨⟨a,l',i',e'⟩,h1,h2,h3,h4,h5,_⟩:=bBo ((bHw hl n).2.2.2.2.2.2.2.2.1 i hi hn top [] (by simp))
 simp only at h2 h3 h4 h5
 subst h2 h3 h4
 refine Ev.congr (f:=fun K=>_) ?_ (fun k=>by rw [aE2])
 refine Ev.bind (bEM hl (by omega)) ?_
 refine Ev.bind h1 ?_
 unfold bIg
 refine Ev.n (fun he=>Ev.pure' (by rw [if_neg he])) (fun he=>Ev.pure' (by rw [if_pos he,he,h5 he]))
end
end Go.Proofs.YtjhfgiieicloeaaGreatDoor

