/- Joined texts: M3, M5p. -/
import Derived.Test.YtjhfgiieicloeaaGreatDoorGm
/- The program's parser of modules comes to its plain functions. Printed by gen8/m3.py. -/
namespace Go.Proofs.YtjhfgiieicloeaaGreatDoor
open Go Go.Am Go.Sx
abbrev TL:List Tr→Prop:=fun _=>True
abbrev NE:Tr→Prop:=fun t=>t≠.nil
theorem bBm {α β γ:Type} {d:γ} {d':β} {r:α×Nat×Int} {f:α→Nat→β×Nat×Int} {g:β→Nat→γ×Nat×Int}:bnd d (bnd d' r f) g=bnd d r fun a j=>bnd d (f a j) g:=by
 by_cases h:r.2.2=0
 ·simp [bnd,h]
 ·simp [bnd,h]
def bBE (l:List aF) (top:Bool) (i:Nat):Bool:=aB3 l i [yI,fR,mU,aAj,aAY,aAC] || (top && aB3 l i [aJK,aJJ])
def bDM (l:List aF) (i:Nat):Bool:=aB3 l i [yI,fR,mU,aAj,aAC,aA6]
def ID (l:List aF) (n:Nat):Prop:=∀ j,j≤l.length→8 * (l.length - j)+2≤n→∀ top out,out.length≤j→Hs (fun K=>(dY K l (j:Int) 0 top).bind fun (v1,v2,v3,v4)=>bJ K top out v1 v2 v3 v4) (QS l TL (yE l n top out j))
def bDz (l:List aF) (r:LT):RT:=bnd .nil r fun k i=>bnd .nil (ks l [aHd] i) fun _ i=>(.node 50 0 [] [] k,i,0)
def IS (l:List aF) (n:Nat):Prop:=∀ j,j≤l.length→8 * (l.length - j)+2≤n→∀ out,out.length≤j→Hs (fun K=>(eL K l (j:Int) 0).bind fun (v1,v2,v3,v4)=>bT K v1 v2 v3 v4 50 0 [] [] out) (QS l TT (bDz l (aDs l n out j)))
def IP (l:List aF) (n:Nat):Prop:=∀ j,j≤l.length→8 * (l.length - j)+1≤n→bDM l j=true→Hs (fun K=>eL K l (j:Int) 0) (QS l NE (aCc l n j))
def IE (l:List aF) (n:Nat):Prop:=∀ j,j≤l.length→8 * (l.length - j)+1≤n→∀ top,bBE l top j=true→Hs (fun K=>dY K l (j:Int) 0 top) (QS l NE (aA1 l n top j))
theorem bDv {l:List aF} {i:Int} {top:Bool} {Q:List Tr×List aF×Int×Int→Prop} (h:Hs (fun K=>(dY K l i 0 top).bind fun (v1,v2,v3,v4)=>bJ K top [] v1 v2 v3 v4) Q):Hs (fun K=>kP K l i 0 top) Q :=
 Hs.step (fun k=>by rw [kP]) h
theorem bFm {l:List aF} {i:Nat} (h:bDM l i=false):Ev (fun K=>eL K l (i:Int) 0) (.nil,l,(i:Int),0):=by
 simp only [bDM,aB3,List.any_cons,List.any_nil,Bool.or_eq_false_iff] at h
 obtain ⟨h1,h2,h3,h4,h5,h6,_⟩:=h
 refine Ev.step (fun k=>by rw [eL]) ?_
 refine Ev.bind (gX h1) (Ev.isF rfl ?_)
 refine Ev.bind (gX h2) (Ev.isF rfl ?_)
 refine Ev.bind (gX h3) (Ev.isF rfl ?_)
 refine Ev.bind (gX h4) (Ev.isF rfl ?_)
 refine Ev.bind (gX h5) (Ev.isF rfl ?_)
 refine Ev.bind (gX h6) (Ev.isF rfl ?_)
 exact Ev.pure
theorem bFM {l:List aF} {i:Nat} {top:Bool} (h:bBE l top i=false):Ev (fun K=>dY K l (i:Int) 0 top) (.nil,l,(i:Int),0):=by
 simp only [bBE,aB3,List.any_cons,List.any_nil,Bool.or_eq_false_iff] at h
 obtain ⟨⟨h1,h2,h3,h4,h5,h6,_⟩,h7⟩:=h
 refine Ev.step (fun k=>by rw [dY]) ?_
 refine Ev.bind (gX h1) (Ev.isF rfl ?_)
 refine Ev.bind (gX h2) (Ev.isF rfl ?_)
 refine Ev.bind (gX h3) (Ev.isF rfl ?_)
 refine Ev.bind (gX h4) (Ev.isF rfl ?_)
 refine Ev.bind (gX h5) (Ev.isF rfl ?_)
 refine Ev.bind (gX h6) (Ev.isF rfl ?_)
 cases top with
 | false=>exact Ev.isF rfl Ev.pure
 | true =>
  simp only [Bool.true_and,Bool.or_eq_false_iff] at h7
  obtain ⟨h7,h8,_⟩:=h7
  refine Ev.isT rfl ?_
  refine Ev.bind (gX h7) (Ev.isF rfl ?_)
  refine Ev.bind (gX h8) (Ev.isF rfl ?_)
  exact Ev.pure
section
variable {l:List aF} (hl:l.length≤20000)
include hl
theorem bEU {n i:Nat} (hi:i≤l.length):Pz l i (2 * i) (aAw l n i):=(aZi hl n i hi).1
theorem bJT {n i:Nat} (hi:i≤l.length):Pz l i (2 * i) (aDN l n i):=(aZi hl n i hi).2.2.1
theorem bBq {n i:Nat} (hi:i≤l.length):Pz l i (2 * i) (sK l n i):=(aZi hl n i hi).2.2.2.1
theorem bJW {n i:Nat} (hi:i≤l.length):Pz l i (2 * i) (aGi l n i):=(aZi hl n i hi).2.2.2.2.2.1
theorem bI1 {n i:Nat} (hi:i≤l.length):Pz l i (2 * i) (aCc l n i):=(aZi hl n i hi).2.2.2.2.2.2.2.1
theorem bGm {n i:Nat} {top:Bool} {out:List Tr} (hi:i≤l.length):Pr l i out (yE l n top out i):=(aZi hl n i hi).2.2.2.2.2.2.2.2.1 top out
theorem bJ6 {n i:Nat} {top:Bool} (hi:i≤l.length):Pz l i (2 * i) (aA1 l n top i):=(aZi hl n i hi).2.2.2.2.2.2.2.2.2 top
variable {n:Nat}
theorem bCv (ihS:IX l n 2 dB (sK l n)) {s:List UInt8} {i:Nat} (hi:i≤l.length) (hn:8 * (l.length - i)+2≤n):Hs (fun K=>dD K l (i:Int) 0 s) (QS l TT (bhd .nil l s (fun j=>sK l n j) i)) :=
 aSd hl hi (fun _ h=>Hs.step (fun k=>by rw [dD]) h) (fun j hj _=>ihS j hj (by omega)) (fun j e he=>aYW l j e he)
theorem bGb (ihM:IX l n 2 eA (aAw l n)) {s:List UInt8} {i:Nat} (hi:i≤l.length) (hn:8 * (l.length - i)+2≤n):Hs (fun K=>dV K l (i:Int) 0 s) (QS l TT (bhd .nil l s (fun j=>aAw l n j) i)) :=
 aSd hl hi (fun _ h=>Hs.step (fun k=>by rw [dV]) h) (fun j hj _=>ihM j hj (by omega)) (fun j e he=>aYF l j e he)
theorem bHs (ihP:IX l n 1 gA (aDN l n)) (ihML:IL l n cX (aD6 l n)):IX l (n+1) 2 eA (aAw l (n+1)):=by
 intro i hi hn
 rw [aAw]
 refine Hs.step (fun k=>by rw [eA]) ?_
 have b:=bJT hl (n:=n) (i:=i) (by omega)
 have p:=ihP (i) (by omega) (by omega)
 generalize aDN l n (i)=g1 at *
 obtain ⟨g1a,g1b,g1c⟩:=b
 refine Hs.par p (fun h1 _=>?_) (fun a _ he=>?_)
 rotate_left
 ·repeat' first
   | exact Hs.pure ⟨rfl,rfl,rfl,fun h=>absurd h he,trivial⟩
   | exact Hs.ev (aLn l _ _ he _) ⟨rfl,rfl,rfl,fun h=>absurd h he,trivial⟩
 have g1c:=g1c h1
 exact ihML g1.2.1 (by omega) (by omega) _
theorem bFh (ihS:IX l n 2 dB (sK l n)) (ihML:IL l n cX (aD6 l n)):IL l (n+1) cX (aD6 l (n+1)):=by
 intro i hi hn m
 rw [aD6]
 refine Hs.step (fun k=>by rw [cX]) ?_
 by_cases k0:bE l (i:Int) [58]=true
 ·rw [if_pos k0]
  have hin:=aX k0
  refine Hs.evb (pP hl k0) ?_
  refine Hs.isT rfl ?_
  have b:=bBq hl (n:=n) (i:=i+1) (by omega)
  have p:=ihS (i+1) (by omega) (by omega)
  generalize sK l n (i+1)=g1 at *
  obtain ⟨g1a,g1b,g1c⟩:=b
  refine Hs.par p (fun h1 _=>?_) (fun a _ he=>?_)
  rotate_left
  ·repeat' first
    | exact Hs.pure ⟨rfl,rfl,rfl,fun h=>absurd h he,trivial⟩
    | exact Hs.ev (aLn l _ _ he _) ⟨rfl,rfl,rfl,fun h=>absurd h he,trivial⟩
  have g1c:=g1c h1
  exact ihML g1.2.1 (by omega) (by omega) _
 rw [if_neg k0]
 refine Hs.evb (gX (by simpa using k0)) ?_
 refine Hs.isF rfl ?_
 by_cases k1:bE l (i:Int) [58,62]=true
 ·rw [if_pos k1]
  have hin:=aX k1
  refine Hs.evb (pP hl k1) ?_
  refine Hs.isT rfl ?_
  have b:=bBq hl (n:=n) (i:=i+1) (by omega)
  have p:=ihS (i+1) (by omega) (by omega)
  generalize sK l n (i+1)=g1 at *
  obtain ⟨g1a,g1b,g1c⟩:=b
  refine Hs.par p (fun h1 _=>?_) (fun a _ he=>?_)
  rotate_left
  ·repeat' first
    | exact Hs.pure ⟨rfl,rfl,rfl,fun h=>absurd h he,trivial⟩
    | exact Hs.ev (aLn l _ _ he _) ⟨rfl,rfl,rfl,fun h=>absurd h he,trivial⟩
  have g1c:=g1c h1
  exact ihML g1.2.1 (by omega) (by omega) _
 rw [if_neg k1]
 refine Hs.evb (gX (by simpa using k1)) ?_
 refine Hs.isF rfl ?_
 exact Hs.pure ⟨rfl,rfl,rfl,fun _=>rfl,trivial⟩
theorem bGZ (ihB:IX l n 1 gC (aGi l n)) (ihSL:IL l n dS (aGv l n)):IX l (n+1) 2 dB (sK l (n+1)):=by
 intro i hi hn
 rw [sK]
 refine Hs.step (fun k=>by rw [dB]) ?_
 have b:=bJW hl (n:=n) (i:=i) (by omega)
 have p:=ihB (i) (by omega) (by omega)
 generalize aGi l n (i)=g1 at *
 obtain ⟨g1a,g1b,g1c⟩:=b
 refine Hs.par p (fun h1 _=>?_) (fun a _ he=>?_)
 rotate_left
 ·repeat' first
   | exact Hs.pure ⟨rfl,rfl,rfl,fun h=>absurd h he,trivial⟩
   | exact Hs.ev (aEt l _ _ he _) ⟨rfl,rfl,rfl,fun h=>absurd h he,trivial⟩
 have g1c:=g1c h1
 exact ihSL g1.2.1 (by omega) (by omega) _
theorem bE9 (ihSL:IL l n dS (aGv l n)):IL l (n+1) dS (aGv l (n+1)):=by
 intro i hi hn m
 rw [aGv]
 refine Hs.step (fun k=>by rw [dS]) ?_
 by_cases k0:bE l (i:Int) aE1=true
 ·rw [if_pos k0]
  have hin:=aX k0
  refine Hs.evb (pP hl k0) ?_
  refine Hs.isT rfl ?_
  have b:=eQ l [fR] (i+1) (by omega)
  have p:=aHL hl [fR] (by decide) (i+1)
  generalize ks l [fR] (i+1)=g1 at *
  obtain ⟨g1a,g1b⟩:=b
  refine Hs.parU p (fun h1=>?_) (fun he=>?_)
  rotate_left
  ·repeat' first
    | exact Hs.pure ⟨rfl,rfl,rfl,fun h=>absurd h he,trivial⟩
    | refine Hs.evb (jQ l _ _ he _ (by decide)) ?_
    | refine Hs.evb (aCE l _ _ he) ?_
    | refine Hs.evb (aFJ l _ _ he) ?_
    | refine Hs.evb (iT ..) ?_
    | exact Hs.ev (aEt l _ _ he _) ⟨rfl,rfl,rfl,fun h=>absurd h he,trivial⟩
  have b:=aJl (l:=l) (i:=g1.2.1) (by omega)
  have sN:=aJs (l:=l) (i:=g1.2.1)
  have p:=aVz hl (g1.2.1)
  generalize lgR l (g1.2.1)=g2 at *
  obtain ⟨g2a,g2b⟩:=b
  refine Hs.par p (fun h2 _=>?_) (fun a _ he=>?_)
  rotate_left
  ·repeat' first
    | exact Hs.pure ⟨rfl,rfl,rfl,fun h=>absurd h he,trivial⟩
    | refine Hs.evb (jQ l _ _ he _ (by decide)) ?_
    | refine Hs.evb (aFJ l _ _ he) ?_
    | refine Hs.evb (iT ..) ?_
    | exact Hs.ev (aEt l _ _ he _) ⟨rfl,rfl,rfl,fun h=>absurd h he,trivial⟩
  have sN:=sN h2
  have b:=eQ l [[61]] (g2.2.1) (by omega)
  have p:=aHL hl [[61]] (by decide) (g2.2.1)
  generalize ks l [[61]] (g2.2.1)=g3 at *
  obtain ⟨g3a,g3b⟩:=b
  refine Hs.parU p (fun h3=>?_) (fun he=>?_)
  rotate_left
  ·repeat' first
    | exact Hs.pure ⟨rfl,rfl,rfl,fun h=>absurd h he,trivial⟩
    | refine Hs.evb (aFJ l _ _ he) ?_
    | refine Hs.evb (iT ..) ?_
    | exact Hs.ev (aEt l _ _ he _) ⟨rfl,rfl,rfl,fun h=>absurd h he,trivial⟩
  have b:=aGs hl (i:=g3.2.1) (by omega)
  have p:=bER hl (i:=g3.2.1) (by omega)
  generalize tyR l (g3.2.1)=g4 at *
  obtain ⟨g4a,g4b,g4c⟩:=b
  refine Hs.par p (fun h4 _=>?_) (fun a _ he=>?_)
  rotate_left
  ·repeat' first
    | exact Hs.pure ⟨rfl,rfl,rfl,fun h=>absurd h he,trivial⟩
    | refine Hs.evb (iT ..) ?_
    | exact Hs.ev (aEt l _ _ he _) ⟨rfl,rfl,rfl,fun h=>absurd h he,trivial⟩
  have g4c:=g4c h4
  refine Hs.evb (iT ..) ?_
  exact ihSL g4.2.1 (by omega) (by omega) _
 rw [if_neg k0]
 refine Hs.evb (gX (by simpa using k0)) ?_
 refine Hs.isF rfl ?_
 exact Hs.pure ⟨rfl,rfl,rfl,fun _=>rfl,trivial⟩
theorem bFt (ihS:IS l n):IX l (n+1) 1 gC (aGi l (n+1)):=by
 intro i hi hn
 rw [aGi]
 refine Hs.step (fun k=>by rw [gC]) ?_
 by_cases k0:bE l (i:Int) kSg=true
 ·rw [if_pos k0]
  have hin:=aX k0
  refine Hs.evb (pP hl k0) ?_
  refine Hs.isF rfl ?_
  refine Hs.evb (aI7 ..) ?_
  exact ihS (i+1) (by omega) (by omega) [] (by simp)
 rw [if_neg k0]
 refine Hs.evb (gX (by simpa using k0)) ?_
 refine Hs.isT rfl ?_
 have b:=oZ (l:=l) (i:=i) (by omega)
 have sN:=rM (l:=l) (i:=i)
 have p:=aI4 hl (i)
 generalize nmR l (i)=g1 at *
 obtain ⟨g1a,g1b⟩:=b
 refine Hs.par p (fun h1 _=>?_) (fun a _ he=>?_)
 rotate_left
 ·repeat' first
   | exact Hs.pure ⟨rfl,rfl,rfl,fun h=>absurd h he,trivial⟩
   | refine Hs.evb (aI7 ..) ?_
 have sN:=sN h1
 exact Hs.evb (aI7 ..) (Hs.pure ⟨rfl,rfl,rfl,fun _=>rfl,trivial⟩)
theorem bDW (ihP:IP l n) (ihS:IS l n):IS l (n+1):=by
 intro i hi hn out ho
 rw [aDs]
 by_cases hb:bDM l i=true
 ·rw [if_pos (show aB3 l i [yI,fR,mU,aAj,aAC,aA6]=true from hb)]
  unfold bDz
  rw [bBm]
  have b:=bI1 hl (n:=n) (i:=i) (by omega)
  have p:=ihP i (by omega) (by omega) hb
  generalize aCc l n i=g1 at *
  obtain ⟨g1a,g1b,g1c⟩:=b
  refine Hs.par p (fun h1 hne=>?_) (fun a _ he=>?_)
  ·have g1c:=g1c h1
   obtain ⟨t,j,e⟩:=g1
   cases t with
   | nil=>exact absurd rfl hne
   | node c m s s' kk =>
    refine Hs.step (F:=fun K=>bT K (.node c m s s' kk) l (j:Int) 0 50 0 [] [] out) (fun k=>by rw [bT]) ?_
    refine Hs.opt (cJ (by simp; omega)) ?_
    exact ihS j (by omega) (by simp only at g1c; omega) _ (by simp only at g1c; simp; omega)
  ·show Hs (fun K=>bT K a l ((g1.2.1:Nat):Int) g1.2.2 50 0 [] [] out) _
   have tail:∀ out:List Tr,Hs (fun K=>bT K .nil l ((g1.2.1:Nat):Int) g1.2.2 50 0 [] [] out) (QS l TT ((.nil,g1.2.1,g1.2.2):RT)):=fun out=>by
    refine Hs.step (fun k=>by rw [bT]) ?_
    refine Hs.evb (jQ l _ _ he _ (by decide)) ?_
    exact Hs.pure ⟨rfl,rfl,rfl,fun h=>absurd h he,trivial⟩
   cases a with
   | nil=>exact tail out
   | node c m s s' kk =>
    refine Hs.step (fun k=>by rw [bT]) ?_
    refine Hs.opt (cJ (by simp; omega)) ?_
    refine Hs.evb (bBB l _ _ he) ?_
    exact tail _
 ·rw [if_neg (show ¬ aB3 l i [yI,fR,mU,aAj,aAC,aA6]=true from hb)]
  refine Hs.evb (bFm (by simpa using hb)) ?_
  refine Hs.step (F:=fun K=>bT K .nil l (i:Int) 0 50 0 [] [] out) (fun k=>by rw [bT]) ?_
  unfold bDz
  rw [aO]
  have b:=eQ l [aHd] (i) (by omega)
  have p:=aHL hl [aHd] (by decide) (i)
  generalize ks l [aHd] (i)=g1 at *
  obtain ⟨g1a,g1b⟩:=b
  refine Hs.parU p (fun h1=>?_) (fun he=>?_)
  rotate_left
  ·exact Hs.pure ⟨rfl,rfl,rfl,fun h=>absurd h he,trivial⟩
  exact Hs.pure ⟨rfl,rfl,rfl,fun _=>rfl,trivial⟩
theorem bDc (ihE:IE l n) (ihD:ID l n):ID l (n+1):=by
 intro i hi hn top out ho
 rw [yE]
 by_cases hb:bBE l top i=true
 ·rw [if_pos (show (aB3 l i [yI,fR,mU,aAj,aAY,aAC] || (top && aB3 l i [aJK,aJJ]))=true from hb)]
  have b:=bJ6 hl (n:=n) (top:=top) (i:=i) (by omega)
  have p:=ihE i (by omega) (by omega) top hb
  generalize aA1 l n top i=g1 at *
  obtain ⟨g1a,g1b,g1c⟩:=b
  refine Hs.par p (fun h1 hne=>?_) (fun a _ he=>?_)
  ·have g1c:=g1c h1
   obtain ⟨t,j,e⟩:=g1
   cases t with
   | nil=>exact absurd rfl hne
   | node c m s s' kk =>
    refine Hs.step (F:=fun K=>bJ K top out (.node c m s s' kk) l (j:Int) 0) (fun k=>by rw [bJ]) ?_
    refine Hs.opt (cJ (by simp; omega)) ?_
    exact ihD j (by omega) (by simp only at g1c; omega) _ _ (by simp only at g1c; simp; omega)
  ·show Hs (fun K=>bJ K top out a l ((g1.2.1:Nat):Int) g1.2.2) _
   have tail:∀ out:List Tr,Hs (fun K=>bJ K top out .nil l ((g1.2.1:Nat):Int) g1.2.2) (QS l TL (([],g1.2.1,g1.2.2):LT)):=fun out=>by
    refine Hs.step (fun k=>by rw [bJ]) ?_
    exact Hs.pure ⟨rfl,rfl,rfl,fun h=>absurd h he,trivial⟩
   cases a with
   | nil=>exact tail out
   | node c m s s' kk =>
    refine Hs.step (fun k=>by rw [bJ]) ?_
    refine Hs.opt (cJ (by simp; omega)) ?_
    refine Hs.evb (bBe l _ _ he _) ?_
    exact tail _
 ·rw [if_neg (show ¬ (aB3 l i [yI,fR,mU,aAj,aAY,aAC] || (top && aB3 l i [aJK,aJJ]))=true from hb)]
  refine Hs.evb (bFM (by simpa using hb)) ?_
  refine Hs.step (F:=fun K=>bJ K top out .nil l (i:Int) 0) (fun k=>by rw [bJ]) ?_
  exact Hs.pure ⟨rfl,rfl,rfl,fun _=>rfl,trivial⟩
theorem bE1 (ihM:IX l n 2 eA (aAw l n)) (ihDs:ID l n):IX l (n+1) 1 gA (aDN l (n+1)):=by
 intro i hi hn
 rw [aDN]
 refine Hs.step (fun k=>by rw [gA]) ?_
 by_cases k0:bE l (i:Int) aLC=true
 ·rw [if_pos k0]
  have hin:=aX k0
  refine Hs.evb (pP hl k0) ?_
  refine Hs.isT rfl ?_
  have b:=bGm hl (n:=n) (top:=false) (out:=[]) (i:=i+1) (by omega)
  have p:=bDv (ihDs (i+1) (by omega) (by omega) false [] (by simp))
  generalize yE l n false [] (i+1)=g1 at *
  obtain ⟨g1a,g1b,g1c⟩:=b
  refine Hs.par p (fun h1 _=>?_) (fun a _ he=>?_)
  rotate_left
  ·repeat' first
    | exact Hs.pure ⟨rfl,rfl,rfl,fun h=>absurd h he,trivial⟩
    | refine Hs.evb (jQ l _ _ he _ (by decide)) ?_
    | refine Hs.evb (iT ..) ?_
  have g1c:=g1c h1
  have b:=eQ l [aHd] (g1.2.1) (by omega)
  have p:=aHL hl [aHd] (by decide) (g1.2.1)
  generalize ks l [aHd] (g1.2.1)=g2 at *
  obtain ⟨g2a,g2b⟩:=b
  refine Hs.parU p (fun h2=>?_) (fun he=>?_)
  rotate_left
  ·repeat' first
    | exact Hs.pure ⟨rfl,rfl,rfl,fun h=>absurd h he,trivial⟩
    | refine Hs.evb (iT ..) ?_
  exact Hs.evb (iT ..) (Hs.pure ⟨rfl,rfl,rfl,fun _=>rfl,trivial⟩)
 rw [if_neg k0]
 refine Hs.evb (gX (by simpa using k0)) ?_
 refine Hs.isF rfl ?_
 by_cases k1:bE l (i:Int) [40]=true
 ·rw [if_pos k1]
  have hin:=aX k1
  refine Hs.evb (pP hl k1) ?_
  refine Hs.isT rfl ?_
  have b:=bEU hl (n:=n) (i:=i+1) (by omega)
  have p:=ihM (i+1) (by omega) (by omega)
  generalize aAw l n (i+1)=g1 at *
  obtain ⟨g1a,g1b,g1c⟩:=b
  refine Hs.par p (fun h1 _=>?_) (fun a _ he=>?_)
  rotate_left
  ·repeat' first
    | exact Hs.pure ⟨rfl,rfl,rfl,fun h=>absurd h he,trivial⟩
    | refine Hs.evb (jQ l _ _ he _ (by decide)) ?_
  have g1c:=g1c h1
  have b:=eQ l [[41]] (g1.2.1) (by omega)
  have p:=aHL hl [[41]] (by decide) (g1.2.1)
  generalize ks l [[41]] (g1.2.1)=g2 at *
  obtain ⟨g2a,g2b⟩:=b
  refine Hs.parU p (fun h2=>?_) (fun he=>?_)
  rotate_left
  ·exact Hs.pure ⟨rfl,rfl,rfl,fun h=>absurd h he,trivial⟩
  exact Hs.pure ⟨rfl,rfl,rfl,fun _=>rfl,trivial⟩
 rw [if_neg k1]
 refine Hs.evb (gX (by simpa using k1)) ?_
 refine Hs.isF rfl ?_
 have tail:Hs (fun K=>(cY K l (i:Int) 0).bind fun (v36,v37,v38,v39)=>(gG K 41 v36 []).bind fun v40=>some (v40,v37,v38,v39)) (QS l TT (bnd .nil (lgR l i) fun s i=>(.node 41 0 s [] [],i,0))):=by
  have b:=aJl (l:=l) (i:=i) (by omega)
  have sN:=aJs (l:=l) (i:=i)
  have p:=aVz hl (i)
  generalize lgR l (i)=g1 at *
  obtain ⟨g1a,g1b⟩:=b
  refine Hs.par p (fun h1 _=>?_) (fun a _ he=>?_)
  rotate_left
  ·repeat' first
    | exact Hs.pure ⟨rfl,rfl,rfl,fun h=>absurd h he,trivial⟩
    | refine Hs.evb (iT ..) ?_
  have sN:=sN h1
  exact Hs.evb (iT ..) (Hs.pure ⟨rfl,rfl,rfl,fun _=>rfl,trivial⟩)
 refine Hs.evb (aDe l i) ?_
 by_cases k2:(qB l (i:Int)).2=true∧bE l ((i+1:Nat):Int) [40]=true
 ·rw [if_pos k2]
  have hin:=aX k2.2
  generalize qB l (i:Int)=N at *
  obtain ⟨s,bb⟩:=N
  simp only at k2 ⊢
  refine Hs.isT k2.1 ?_
  rw [wr1 (by omega),wr2 (by omega)]
  refine Hs.evb (aCV l _ _) ?_
  refine Hs.isT k2.2 ?_
  refine Hs.d (fun _=>?_) (fun h=>absurd trivial h)
  refine Hs.step (fun k=>by rw [nX]) ?_
  have b:=bEU hl (n:=n) (i:=i+2) (by omega)
  have p:=ihM (i+2) (by omega) (by omega)
  generalize aAw l n (i+2)=g1 at *
  obtain ⟨g1a,g1b,g1c⟩:=b
  refine Hs.par p (fun h1 _=>?_) (fun a _ he=>?_)
  rotate_left
  ·repeat' first
    | exact Hs.pure ⟨rfl,rfl,rfl,fun h=>absurd h he,trivial⟩
    | refine Hs.evb (jQ l _ _ he _ (by decide)) ?_
    | refine Hs.evb (iT ..) ?_
  have g1c:=g1c h1
  have b:=eQ l [[41]] (g1.2.1) (by omega)
  have p:=aHL hl [[41]] (by decide) (g1.2.1)
  generalize ks l [[41]] (g1.2.1)=g2 at *
  obtain ⟨g2a,g2b⟩:=b
  refine Hs.parU p (fun h2=>?_) (fun he=>?_)
  rotate_left
  ·repeat' first
    | exact Hs.pure ⟨rfl,rfl,rfl,fun h=>absurd h he,trivial⟩
    | refine Hs.evb (iT ..) ?_
  exact Hs.evb (iT ..) (Hs.pure ⟨rfl,rfl,rfl,fun _=>rfl,trivial⟩)
 rw [if_neg k2]
 generalize qB l (i:Int)=N at *
 obtain ⟨s,bb⟩:=N
 simp only at k2 ⊢
 refine Hs.is (fun hb=>?_) (fun _=>tail)
 rw [wr1 (by omega)]
 refine Hs.evb (aCV l _ _) ?_
 exact Hs.is (fun hk=>absurd ⟨hb,hk⟩ k2) (fun _=>tail)
theorem bEQ (ihS:IX l n 2 dB (sK l n)):IP l (n+1):=by
 intro i hi hn hb
 rw [aCc]
 refine Hs.step (fun k=>by rw [eL]) ?_
 by_cases k0:bE l (i:Int) yI=true
 ·rw [if_pos k0]
  have hin:=aX k0
  refine Hs.evb (pP hl k0) ?_
  refine Hs.isT rfl ?_
  have b:=oZ (l:=l) (i:=i+1) (by omega)
  have sN:=rM (l:=l) (i:=i+1)
  have p:=aI4 hl (i+1)
  generalize nmR l (i+1)=g1 at *
  obtain ⟨g1a,g1b⟩:=b
  refine Hs.par p (fun h1 _=>?_) (fun a _ he=>?_)
  rotate_left
  ·repeat' first
    | exact Hs.pure ⟨rfl,rfl,rfl,fun h=>absurd h he,nofun⟩
    | refine Hs.evb (aVO l _ _ he _) ?_
    | refine Hs.evb (iT ..) ?_
  have sN:=sN h1
  have b:=aB4 (s:=[58]) (f:=fun j=>tyR l j) (i:=g1.2.1) (by omega) (fun j hj=>aGs hl hj)
  have p:=bF5 hl [58] (i:=g1.2.1) (by omega)
  generalize bhd .nil l [58] (fun j=>tyR l j) (g1.2.1)=g2 at *
  obtain ⟨g2a,g2b,g2c⟩:=b
  refine Hs.par p (fun h2 _=>?_) (fun a _ he=>?_)
  rotate_left
  ·repeat' first
    | exact Hs.pure ⟨rfl,rfl,rfl,fun h=>absurd h he,nofun⟩
    | refine Hs.evb (iT ..) ?_
  have g2c:=g2c h2
  exact Hs.evb (iT ..) (Hs.pure ⟨rfl,rfl,rfl,fun _=>rfl,nofun⟩)
 rw [if_neg k0]
 refine Hs.evb (gX (by simpa using k0)) ?_
 refine Hs.isF rfl ?_
 by_cases k1:bE l (i:Int) fR=true
 ·rw [if_pos k1]
  have hin:=aX k1
  refine Hs.evb (pP hl k1) ?_
  refine Hs.isT rfl ?_
  have b:=oZ (l:=l) (i:=i+1) (by omega)
  have sN:=rM (l:=l) (i:=i+1)
  have p:=aI4 hl (i+1)
  generalize nmR l (i+1)=g1 at *
  obtain ⟨g1a,g1b⟩:=b
  refine Hs.par p (fun h1 _=>?_) (fun a _ he=>?_)
  rotate_left
  ·repeat' first
    | exact Hs.pure ⟨rfl,rfl,rfl,fun h=>absurd h he,nofun⟩
    | refine Hs.evb (aFJ l _ _ he) ?_
    | refine Hs.evb (iT ..) ?_
    | refine Hs.evb (lO l _ _ he _) ?_
    | refine Hs.isF rfl ?_
    | refine Hs.isT rfl ?_
  have sN:=sN h1
  by_cases j1:bE l (g1.2.1:Int) [61]=true
  ·rw [if_pos j1]
   have hin2:=aX j1
   refine Hs.evb (pP hl j1) ?_
   refine Hs.isF rfl ?_
   have b:=aGs hl (i:=g1.2.1+1) (by omega)
   have p:=bER hl (i:=g1.2.1+1) (by omega)
   generalize tyR l (g1.2.1+1)=g2 at *
   obtain ⟨g2a,g2b,g2c⟩:=b
   refine Hs.par p (fun h2 _=>?_) (fun a _ he=>?_)
   rotate_left
   ·repeat' first
     | exact Hs.pure ⟨rfl,rfl,rfl,fun h=>absurd h he,nofun⟩
     | refine Hs.evb (iT ..) ?_
   have g2c:=g2c h2
   exact Hs.evb (iT ..) (Hs.pure ⟨rfl,rfl,rfl,fun _=>rfl,nofun⟩)
  rw [if_neg j1]
  refine Hs.evb (gX (by simpa using j1)) ?_
  refine Hs.isT rfl ?_
  exact Hs.evb (iT ..) (Hs.pure ⟨rfl,rfl,rfl,fun _=>rfl,nofun⟩)
 rw [if_neg k1]
 refine Hs.evb (gX (by simpa using k1)) ?_
 refine Hs.isF rfl ?_
 by_cases k2:bE l (i:Int) mU=true
 ·rw [if_pos k2]
  have hin:=aX k2
  refine Hs.evb (pP hl k2) ?_
  refine Hs.isT rfl ?_
  have b:=oZ (l:=l) (i:=i+1) (by omega)
  have sN:=rM (l:=l) (i:=i+1)
  have p:=aI4 hl (i+1)
  generalize nmR l (i+1)=g1 at *
  obtain ⟨g1a,g1b⟩:=b
  refine Hs.par p (fun h1 _=>?_) (fun a _ he=>?_)
  rotate_left
  ·repeat' first
    | exact Hs.pure ⟨rfl,rfl,rfl,fun h=>absurd h he,nofun⟩
    | refine Hs.evb (jQ l _ _ he _ (by decide)) ?_
    | refine Hs.evb (aLq l _ _ he) ?_
    | refine Hs.evb (iT ..) ?_
  have sN:=sN h1
  have b:=eQ l [[61]] (g1.2.1) (by omega)
  have p:=aHL hl [[61]] (by decide) (g1.2.1)
  generalize ks l [[61]] (g1.2.1)=g2 at *
  obtain ⟨g2a,g2b⟩:=b
  refine Hs.parU p (fun h2=>?_) (fun he=>?_)
  rotate_left
  ·repeat' first
    | exact Hs.pure ⟨rfl,rfl,rfl,fun h=>absurd h he,nofun⟩
    | refine Hs.evb (aLq l _ _ he) ?_
    | refine Hs.evb (iT ..) ?_
  have b:=bAB hl (i:=g2.2.1) (by omega)
  have p:=bF9 hl (i:=g2.2.1) (by omega)
  generalize cnR l (g2.2.1)=g3 at *
  obtain ⟨g3a,g3b,g3c⟩:=b
  refine Hs.par p (fun h3 _=>?_) (fun a _ he=>?_)
  rotate_left
  ·repeat' first
    | exact Hs.pure ⟨rfl,rfl,rfl,fun h=>absurd h he,nofun⟩
    | refine Hs.evb (iT ..) ?_
  have g3c:=g3c h3
  exact Hs.evb (iT ..) (Hs.pure ⟨rfl,rfl,rfl,fun _=>rfl,nofun⟩)
 rw [if_neg k2]
 refine Hs.evb (gX (by simpa using k2)) ?_
 refine Hs.isF rfl ?_
 by_cases k3:bE l (i:Int) aAj=true
 ·rw [if_pos k3]
  have hin:=aX k3
  refine Hs.evb (pP hl k3) ?_
  refine Hs.isT rfl ?_
  have b:=oZ (l:=l) (i:=i+1) (by omega)
  have sN:=rM (l:=l) (i:=i+1)
  have p:=aI4 hl (i+1)
  generalize nmR l (i+1)=g1 at *
  obtain ⟨g1a,g1b⟩:=b
  refine Hs.par p (fun h1 _=>?_) (fun a _ he=>?_)
  rotate_left
  ·repeat' first
    | exact Hs.pure ⟨rfl,rfl,rfl,fun h=>absurd h he,nofun⟩
    | refine Hs.evb (aHW l _ _ he _) ?_
    | refine Hs.evb (iT ..) ?_
  have sN:=sN h1
  have b:=aB4 (s:=[58]) (f:=fun j=>sK l n j) (i:=g1.2.1) (by omega) (fun j hj=>bBq hl hj)
  have p:=bCv hl ihS (s:=[58]) (i:=g1.2.1) (by omega) (by omega)
  generalize bhd .nil l [58] (fun j=>sK l n j) (g1.2.1)=g2 at *
  obtain ⟨g2a,g2b,g2c⟩:=b
  refine Hs.par p (fun h2 _=>?_) (fun a _ he=>?_)
  rotate_left
  ·repeat' first
    | exact Hs.pure ⟨rfl,rfl,rfl,fun h=>absurd h he,nofun⟩
    | refine Hs.evb (iT ..) ?_
  have g2c:=g2c h2
  exact Hs.evb (iT ..) (Hs.pure ⟨rfl,rfl,rfl,fun _=>rfl,nofun⟩)
 rw [if_neg k3]
 refine Hs.evb (gX (by simpa using k3)) ?_
 refine Hs.isF rfl ?_
 by_cases k4:bE l (i:Int) aAC=true
 ·rw [if_pos k4]
  have hin:=aX k4
  refine Hs.evb (pP hl k4) ?_
  refine Hs.isT rfl ?_
  have b:=bBq hl (n:=n) (i:=i+1) (by omega)
  have p:=ihS (i+1) (by omega) (by omega)
  generalize sK l n (i+1)=g1 at *
  obtain ⟨g1a,g1b,g1c⟩:=b
  refine Hs.par p (fun h1 _=>?_) (fun a _ he=>?_)
  rotate_left
  ·repeat' first
    | exact Hs.pure ⟨rfl,rfl,rfl,fun h=>absurd h he,nofun⟩
    | refine Hs.evb (iT ..) ?_
  have g1c:=g1c h1
  exact Hs.evb (iT ..) (Hs.pure ⟨rfl,rfl,rfl,fun _=>rfl,nofun⟩)
 rw [if_neg k4]
 refine Hs.evb (gX (by simpa using k4)) ?_
 refine Hs.isF rfl ?_
 by_cases k5:bE l (i:Int) aA6=true
 ·rw [if_pos k5]
  have hin:=aX k5
  refine Hs.evb (pP hl k5) ?_
  refine Hs.isT rfl ?_
  have b:=eQ l [fR] (i+1) (by omega)
  have p:=aHL hl [fR] (by decide) (i+1)
  generalize ks l [fR] (i+1)=g1 at *
  obtain ⟨g1a,g1b⟩:=b
  refine Hs.parU p (fun h1=>?_) (fun he=>?_)
  rotate_left
  ·repeat' first
    | exact Hs.pure ⟨rfl,rfl,rfl,fun h=>absurd h he,nofun⟩
    | refine Hs.evb (jQ l _ _ he _ (by decide)) ?_
    | refine Hs.evb (aCE l _ _ he) ?_
  have b:=aJl (l:=l) (i:=g1.2.1) (by omega)
  have sN:=aJs (l:=l) (i:=g1.2.1)
  have p:=aVz hl (g1.2.1)
  generalize lgR l (g1.2.1)=g2 at *
  obtain ⟨g2a,g2b⟩:=b
  refine Hs.par p (fun h2 _=>?_) (fun a _ he=>?_)
  rotate_left
  ·repeat' first
    | exact Hs.pure ⟨rfl,rfl,rfl,fun h=>absurd h he,nofun⟩
    | refine Hs.evb (jQ l _ _ he _ (by decide)) ?_
    | refine Hs.evb (aCE l _ _ he) ?_
  have sN:=sN h2
  have b:=eQ l [[61]] (g2.2.1) (by omega)
  have p:=aHL hl [[61]] (by decide) (g2.2.1)
  generalize ks l [[61]] (g2.2.1)=g3 at *
  obtain ⟨g3a,g3b⟩:=b
  refine Hs.parU p (fun h3=>?_) (fun he=>?_)
  rotate_left
  ·repeat' first
    | exact Hs.pure ⟨rfl,rfl,rfl,fun h=>absurd h he,nofun⟩
    | refine Hs.evb (aCE l _ _ he) ?_
  have b:=aJl (l:=l) (i:=g3.2.1) (by omega)
  have sN:=aJs (l:=l) (i:=g3.2.1)
  have p:=aVz hl (g3.2.1)
  generalize lgR l (g3.2.1)=g4 at *
  obtain ⟨g4a,g4b⟩:=b
  refine Hs.par p (fun h4 _=>?_) (fun a _ he=>?_)
  rotate_left
  ·exact Hs.pure ⟨rfl,rfl,rfl,fun h=>absurd h he,nofun⟩
  have sN:=sN h4
  exact Hs.pure ⟨rfl,rfl,rfl,fun _=>rfl,nofun⟩
 rw [if_neg k5]
 refine Hs.evb (gX (by simpa using k5)) ?_
 refine Hs.isF rfl ?_
 exact absurd hb (by simp [bDM,aB3,k0,k1,k2,k3,k4,k5])
theorem bFE (ihS:IX l n 2 dB (sK l n)) (ihM:IX l n 2 eA (aAw l n)):IE l (n+1):=by
 intro i hi hn top hb
 rw [aA1]
 refine Hs.step (fun k=>by rw [dY]) ?_
 by_cases k0:bE l (i:Int) yI=true
 ·rw [if_pos k0]
  have hin:=aX k0
  refine Hs.evb (pP hl k0) ?_
  refine Hs.isT rfl ?_
  have b:=oZ (l:=l) (i:=i+1) (by omega)
  have sN:=rM (l:=l) (i:=i+1)
  have p:=aI4 hl (i+1)
  generalize nmR l (i+1)=g1 at *
  obtain ⟨g1a,g1b⟩:=b
  refine Hs.par p (fun h1 _=>?_) (fun a _ he=>?_)
  rotate_left
  ·repeat' first
    | exact Hs.pure ⟨rfl,rfl,rfl,fun h=>absurd h he,nofun⟩
    | refine Hs.evb (aFJ l _ _ he) ?_
    | refine Hs.evb (aSE l _ _ he _) ?_
    | refine Hs.evb (aI7 ..) ?_
    | refine Hs.opt (cJ (by simp; omega)) ?_
    | refine Hs.evb (lO l _ _ he _) ?_
    | refine Hs.isF rfl ?_
    | refine Hs.isT rfl ?_
    | refine Hs.step (F:=fun K=>cE K _ _ _ _ _ _ _ _) (fun k=>by rw [cE]) ?_
  have sN:=sN h1
  refine Hs.evb (aI7 ..) ?_
  by_cases j0:bE l (g1.2.1:Int) [58]=true
  ·rw [if_pos j0]
   have hin2:=aX j0
   refine Hs.evb (pP hl j0) ?_
   refine Hs.isT rfl ?_
   have b:=aGs hl (i:=g1.2.1+1) (by omega)
   have p:=bER hl (i:=g1.2.1+1) (by omega)
   generalize tyR l (g1.2.1+1)=g2 at *
   obtain ⟨g2a,g2b,g2c⟩:=b
   refine Hs.par p (fun h2 _=>?_) (fun a _ he=>?_)
   rotate_left
   ·repeat' first
     | exact Hs.pure ⟨rfl,rfl,rfl,fun h=>absurd h he,nofun⟩
     | refine Hs.evb (aSE l _ _ he _) ?_
     | refine Hs.opt (cJ (by simp; omega)) ?_
     | refine Hs.step (F:=fun K=>cE K _ _ _ _ _ _ _ _) (fun k=>by rw [cE]) ?_
   have g2c:=g2c h2
   refine Hs.opt (cJ (by simp)) ?_
   refine Hs.step (F:=fun K=>cE K _ _ _ _ _ _ _ _) (fun k=>by rw [cE]) ?_
   have b:=aB4 (s:=[61]) (f:=fun j=>exR l j) (i:=g2.2.1) (by omega) (fun j hj=>bAu hl hj)
   have p:=bCP hl [61] (i:=g2.2.1) (by omega)
   generalize bhd .nil l [61] (fun j=>exR l j) (g2.2.1)=g3 at *
   obtain ⟨g3a,g3b,g3c⟩:=b
   refine Hs.par p (fun h3 _=>?_) (fun a _ he=>?_)
   rotate_left
   ·repeat' first
     | exact Hs.pure ⟨rfl,rfl,rfl,fun h=>absurd h he,nofun⟩
     | refine Hs.opt (cJ (by simp; omega)) ?_
   have g3c:=g3c h3
   refine Hs.opt (cJ (by simp)) ?_
   exact Hs.pure ⟨rfl,rfl,rfl,fun _=>rfl,nofun⟩
  rw [if_neg j0]
  refine Hs.evb (gX (by simpa using j0)) ?_
  refine Hs.isF rfl ?_
  refine Hs.step (F:=fun K=>cE K _ _ _ _ _ _ _ _) (fun k=>by rw [cE]) ?_
  have b:=aB4 (s:=[61]) (f:=fun j=>exR l j) (i:=g1.2.1) (by omega) (fun j hj=>bAu hl hj)
  have p:=bCP hl [61] (i:=g1.2.1) (by omega)
  generalize bhd .nil l [61] (fun j=>exR l j) (g1.2.1)=g2 at *
  obtain ⟨g2a,g2b,g2c⟩:=b
  refine Hs.par p (fun h2 _=>?_) (fun a _ he=>?_)
  rotate_left
  ·repeat' first
    | exact Hs.pure ⟨rfl,rfl,rfl,fun h=>absurd h he,nofun⟩
    | refine Hs.opt (cJ (by simp; omega)) ?_
  have g2c:=g2c h2
  refine Hs.opt (cJ (by simp)) ?_
  exact Hs.pure ⟨rfl,rfl,rfl,fun _=>rfl,nofun⟩
 rw [if_neg k0]
 refine Hs.evb (gX (by simpa using k0)) ?_
 refine Hs.isF rfl ?_
 by_cases k1:bE l (i:Int) fR=true
 ·rw [if_pos k1]
  have hin:=aX k1
  refine Hs.evb (pP hl k1) ?_
  refine Hs.isT rfl ?_
  have b:=oZ (l:=l) (i:=i+1) (by omega)
  have sN:=rM (l:=l) (i:=i+1)
  have p:=aI4 hl (i+1)
  generalize nmR l (i+1)=g1 at *
  obtain ⟨g1a,g1b⟩:=b
  refine Hs.par p (fun h1 _=>?_) (fun a _ he=>?_)
  rotate_left
  ·repeat' first
    | exact Hs.pure ⟨rfl,rfl,rfl,fun h=>absurd h he,nofun⟩
    | refine Hs.evb (aVO l _ _ he _) ?_
    | refine Hs.evb (iT ..) ?_
  have sN:=sN h1
  have b:=aB4 (s:=[61]) (f:=fun j=>tyR l j) (i:=g1.2.1) (by omega) (fun j hj=>aGs hl hj)
  have p:=bF5 hl [61] (i:=g1.2.1) (by omega)
  generalize bhd .nil l [61] (fun j=>tyR l j) (g1.2.1)=g2 at *
  obtain ⟨g2a,g2b,g2c⟩:=b
  refine Hs.par p (fun h2 _=>?_) (fun a _ he=>?_)
  rotate_left
  ·repeat' first
    | exact Hs.pure ⟨rfl,rfl,rfl,fun h=>absurd h he,nofun⟩
    | refine Hs.evb (iT ..) ?_
  have g2c:=g2c h2
  exact Hs.evb (iT ..) (Hs.pure ⟨rfl,rfl,rfl,fun _=>rfl,nofun⟩)
 rw [if_neg k1]
 refine Hs.evb (gX (by simpa using k1)) ?_
 refine Hs.isF rfl ?_
 by_cases k2:bE l (i:Int) mU=true
 ·rw [if_pos k2]
  have hin:=aX k2
  refine Hs.evb (pP hl k2) ?_
  refine Hs.isT rfl ?_
  have b:=oZ (l:=l) (i:=i+1) (by omega)
  have sN:=rM (l:=l) (i:=i+1)
  have p:=aI4 hl (i+1)
  generalize nmR l (i+1)=g1 at *
  obtain ⟨g1a,g1b⟩:=b
  refine Hs.par p (fun h1 _=>?_) (fun a _ he=>?_)
  rotate_left
  ·repeat' first
    | exact Hs.pure ⟨rfl,rfl,rfl,fun h=>absurd h he,nofun⟩
    | refine Hs.evb (jQ l _ _ he _ (by decide)) ?_
    | refine Hs.evb (aLq l _ _ he) ?_
    | refine Hs.evb (iT ..) ?_
  have sN:=sN h1
  have b:=eQ l [[61]] (g1.2.1) (by omega)
  have p:=aHL hl [[61]] (by decide) (g1.2.1)
  generalize ks l [[61]] (g1.2.1)=g2 at *
  obtain ⟨g2a,g2b⟩:=b
  refine Hs.parU p (fun h2=>?_) (fun he=>?_)
  rotate_left
  ·repeat' first
    | exact Hs.pure ⟨rfl,rfl,rfl,fun h=>absurd h he,nofun⟩
    | refine Hs.evb (aLq l _ _ he) ?_
    | refine Hs.evb (iT ..) ?_
  have b:=bAB hl (i:=g2.2.1) (by omega)
  have p:=bF9 hl (i:=g2.2.1) (by omega)
  generalize cnR l (g2.2.1)=g3 at *
  obtain ⟨g3a,g3b,g3c⟩:=b
  refine Hs.par p (fun h3 _=>?_) (fun a _ he=>?_)
  rotate_left
  ·repeat' first
    | exact Hs.pure ⟨rfl,rfl,rfl,fun h=>absurd h he,nofun⟩
    | refine Hs.evb (iT ..) ?_
  have g3c:=g3c h3
  exact Hs.evb (iT ..) (Hs.pure ⟨rfl,rfl,rfl,fun _=>rfl,nofun⟩)
 rw [if_neg k2]
 refine Hs.evb (gX (by simpa using k2)) ?_
 refine Hs.isF rfl ?_
 by_cases k3:bE l (i:Int) aAj=true
 ·rw [if_pos k3]
  have hin:=aX k3
  refine Hs.evb (pP hl k3) ?_
  refine Hs.isT rfl ?_
  have b:=oZ (l:=l) (i:=i+1) (by omega)
  have sN:=rM (l:=l) (i:=i+1)
  have p:=aI4 hl (i+1)
  generalize nmR l (i+1)=g1 at *
  obtain ⟨g1a,g1b⟩:=b
  refine Hs.par p (fun h1 _=>?_) (fun a _ he=>?_)
  rotate_left
  ·repeat' first
    | exact Hs.pure ⟨rfl,rfl,rfl,fun h=>absurd h he,nofun⟩
    | refine Hs.evb (aEr l _ _ he _) ?_
    | refine Hs.evb (iT ..) ?_
  have sN:=sN h1
  have b:=aB4 (s:=[61]) (f:=fun j=>aAw l n j) (i:=g1.2.1) (by omega) (fun j hj=>bEU hl hj)
  have p:=bGb hl ihM (s:=[61]) (i:=g1.2.1) (by omega) (by omega)
  generalize bhd .nil l [61] (fun j=>aAw l n j) (g1.2.1)=g2 at *
  obtain ⟨g2a,g2b,g2c⟩:=b
  refine Hs.par p (fun h2 _=>?_) (fun a _ he=>?_)
  rotate_left
  ·repeat' first
    | exact Hs.pure ⟨rfl,rfl,rfl,fun h=>absurd h he,nofun⟩
    | refine Hs.evb (iT ..) ?_
  have g2c:=g2c h2
  exact Hs.evb (iT ..) (Hs.pure ⟨rfl,rfl,rfl,fun _=>rfl,nofun⟩)
 rw [if_neg k3]
 refine Hs.evb (gX (by simpa using k3)) ?_
 refine Hs.isF rfl ?_
 by_cases k4:bE l (i:Int) aAY=true
 ·rw [if_pos k4]
  have hin:=aX k4
  refine Hs.evb (pP hl k4) ?_
  refine Hs.isT rfl ?_
  have b:=aJl (l:=l) (i:=i+1) (by omega)
  have sN:=aJs (l:=l) (i:=i+1)
  have p:=aVz hl (i+1)
  generalize lgR l (i+1)=g1 at *
  obtain ⟨g1a,g1b⟩:=b
  refine Hs.par p (fun h1 _=>?_) (fun a _ he=>?_)
  rotate_left
  ·repeat' first
    | exact Hs.pure ⟨rfl,rfl,rfl,fun h=>absurd h he,nofun⟩
    | refine Hs.evb (aI7 ..) ?_
  have sN:=sN h1
  exact Hs.evb (aI7 ..) (Hs.pure ⟨rfl,rfl,rfl,fun _=>rfl,nofun⟩)
 rw [if_neg k4]
 refine Hs.evb (gX (by simpa using k4)) ?_
 refine Hs.isF rfl ?_
 by_cases k5:bE l (i:Int) aAC=true
 ·rw [if_pos k5]
  have hin:=aX k5
  refine Hs.evb (pP hl k5) ?_
  refine Hs.isT rfl ?_
  have b:=aJl (l:=l) (i:=i+1) (by omega)
  have sN:=aJs (l:=l) (i:=i+1)
  have p:=aVz hl (i+1)
  generalize lgR l (i+1)=g1 at *
  obtain ⟨g1a,g1b⟩:=b
  refine Hs.par p (fun h1 _=>?_) (fun a _ he=>?_)
  rotate_left
  ·repeat' first
    | exact Hs.pure ⟨rfl,rfl,rfl,fun h=>absurd h he,nofun⟩
    | refine Hs.evb (aI7 ..) ?_
  have sN:=sN h1
  exact Hs.evb (aI7 ..) (Hs.pure ⟨rfl,rfl,rfl,fun _=>rfl,nofun⟩)
 rw [if_neg k5]
 refine Hs.evb (gX (by simpa using k5)) ?_
 refine Hs.isF rfl ?_
 cases top with
 | false=>exact absurd hb (by simp [bBE,aB3,k0,k1,k2,k3,k4,k5])
 | true =>
 refine Hs.isT rfl ?_
 by_cases k6:bE l (i:Int) aJK=true
 ·rw [if_pos ⟨rfl,k6⟩]
  have hin:=aX k6
  refine Hs.evb (pP hl k6) ?_
  refine Hs.isT rfl ?_
  have b:=oZ (l:=l) (i:=i+1) (by omega)
  have sN:=rM (l:=l) (i:=i+1)
  have p:=aI4 hl (i+1)
  generalize nmR l (i+1)=g1 at *
  obtain ⟨g1a,g1b⟩:=b
  refine Hs.par p (fun h1 _=>?_) (fun a _ he=>?_)
  rotate_left
  ·repeat' first
    | exact Hs.pure ⟨rfl,rfl,rfl,fun h=>absurd h he,nofun⟩
    | refine Hs.evb (aHW l _ _ he _) ?_
    | refine Hs.evb (iT ..) ?_
  have sN:=sN h1
  have b:=aB4 (s:=[61]) (f:=fun j=>sK l n j) (i:=g1.2.1) (by omega) (fun j hj=>bBq hl hj)
  have p:=bCv hl ihS (s:=[61]) (i:=g1.2.1) (by omega) (by omega)
  generalize bhd .nil l [61] (fun j=>sK l n j) (g1.2.1)=g2 at *
  obtain ⟨g2a,g2b,g2c⟩:=b
  refine Hs.par p (fun h2 _=>?_) (fun a _ he=>?_)
  rotate_left
  ·repeat' first
    | exact Hs.pure ⟨rfl,rfl,rfl,fun h=>absurd h he,nofun⟩
    | refine Hs.evb (iT ..) ?_
  have g2c:=g2c h2
  exact Hs.evb (iT ..) (Hs.pure ⟨rfl,rfl,rfl,fun _=>rfl,nofun⟩)
 rw [if_neg (fun h=>k6 h.2)]
 refine Hs.evb (gX (by simpa using k6)) ?_
 refine Hs.isF rfl ?_
 by_cases k7:bE l (i:Int) aJJ=true
 ·rw [if_pos ⟨rfl,k7⟩]
  have hin:=aX k7
  refine Hs.evb (pP hl k7) ?_
  refine Hs.isT rfl ?_
  have b:=oZ (l:=l) (i:=i+1) (by omega)
  have sN:=rM (l:=l) (i:=i+1)
  have p:=aI4 hl (i+1)
  generalize nmR l (i+1)=g1 at *
  obtain ⟨g1a,g1b⟩:=b
  refine Hs.par p (fun h1 _=>?_) (fun a _ he=>?_)
  rotate_left
  ·repeat' first
    | exact Hs.pure ⟨rfl,rfl,rfl,fun h=>absurd h he,nofun⟩
    | refine Hs.evb (jQ l _ _ he _ (by decide)) ?_
    | refine Hs.evb (aPR l _ _ he) ?_
    | refine Hs.evb (aHW l _ _ he _) ?_
    | refine Hs.evb (aEr l _ _ he _) ?_
    | refine Hs.evb (aI7 ..) ?_
    | refine Hs.step (F:=fun K=>gJ K _ _ _ _ _ _ _) (fun k=>by rw [gJ]) ?_
  have sN:=sN h1
  refine Hs.evb (aI7 ..) ?_
  refine Hs.step (F:=fun K=>gJ K _ _ _ _ _ _ _) (fun k=>by rw [gJ]) ?_
  have b:=eQ l [[40]] (g1.2.1) (by omega)
  have p:=aHL hl [[40]] (by decide) (g1.2.1)
  generalize ks l [[40]] (g1.2.1)=g2 at *
  obtain ⟨g2a,g2b⟩:=b
  refine Hs.parU p (fun h2=>?_) (fun he=>?_)
  rotate_left
  ·repeat' first
    | exact Hs.pure ⟨rfl,rfl,rfl,fun h=>absurd h he,nofun⟩
    | refine Hs.evb (jQ l _ _ he _ (by decide)) ?_
    | refine Hs.evb (aPR l _ _ he) ?_
    | refine Hs.evb (aHW l _ _ he _) ?_
    | refine Hs.evb (aEr l _ _ he _) ?_
  have b:=oZ (l:=l) (i:=g2.2.1) (by omega)
  have sN:=rM (l:=l) (i:=g2.2.1)
  have p:=aI4 hl (g2.2.1)
  generalize nmR l (g2.2.1)=g3 at *
  obtain ⟨g3a,g3b⟩:=b
  refine Hs.par p (fun h3 _=>?_) (fun a _ he=>?_)
  rotate_left
  ·repeat' first
    | exact Hs.pure ⟨rfl,rfl,rfl,fun h=>absurd h he,nofun⟩
    | refine Hs.evb (jQ l _ _ he _ (by decide)) ?_
    | refine Hs.evb (aHW l _ _ he _) ?_
    | refine Hs.evb (aEr l _ _ he _) ?_
  have sN:=sN h3
  have b:=aB4 (s:=[58]) (f:=fun j=>sK l n j) (i:=g3.2.1) (by omega) (fun j hj=>bBq hl hj)
  have p:=bCv hl ihS (s:=[58]) (i:=g3.2.1) (by omega) (by omega)
  generalize bhd .nil l [58] (fun j=>sK l n j) (g3.2.1)=g4 at *
  obtain ⟨g4a,g4b,g4c⟩:=b
  refine Hs.par p (fun h4 _=>?_) (fun a _ he=>?_)
  rotate_left
  ·repeat' first
    | exact Hs.pure ⟨rfl,rfl,rfl,fun h=>absurd h he,nofun⟩
    | refine Hs.evb (jQ l _ _ he _ (by decide)) ?_
    | refine Hs.evb (aEr l _ _ he _) ?_
  have g4c:=g4c h4
  have b:=eQ l [[41]] (g4.2.1) (by omega)
  have p:=aHL hl [[41]] (by decide) (g4.2.1)
  generalize ks l [[41]] (g4.2.1)=g5 at *
  obtain ⟨g5a,g5b⟩:=b
  refine Hs.parU p (fun h5=>?_) (fun he=>?_)
  rotate_left
  ·repeat' first
    | exact Hs.pure ⟨rfl,rfl,rfl,fun h=>absurd h he,nofun⟩
    | refine Hs.evb (aEr l _ _ he _) ?_
  have b:=aB4 (s:=[61]) (f:=fun j=>aAw l n j) (i:=g5.2.1) (by omega) (fun j hj=>bEU hl hj)
  have p:=bGb hl ihM (s:=[61]) (i:=g5.2.1) (by omega) (by omega)
  generalize bhd .nil l [61] (fun j=>aAw l n j) (g5.2.1)=g6 at *
  obtain ⟨g6a,g6b,g6c⟩:=b
  refine Hs.par p (fun h6 _=>?_) (fun a _ he=>?_)
  rotate_left
  ·exact Hs.pure ⟨rfl,rfl,rfl,fun h=>absurd h he,nofun⟩
  have g6c:=g6c h6
  exact Hs.pure ⟨rfl,rfl,rfl,fun _=>rfl,nofun⟩
 rw [if_neg (fun h=>k7 h.2)]
 refine Hs.evb (gX (by simpa using k7)) ?_
 refine Hs.isF rfl ?_
 exact absurd hb (by simp [bBE,aB3,k0,k1,k2,k3,k4,k5,k6,k7])
theorem bIq:∀ n,IX l n 2 eA (aAw l n)∧IL l n cX (aD6 l n)∧IX l n 1 gA (aDN l n)∧IX l n 2 dB (sK l n)∧IL l n dS (aGv l n)∧IX l n 1 gC (aGi l n) ∧
  IS l n∧IP l n∧ID l n∧IE l n:=by
 intro n
 induction n with
 | zero=>exact ⟨aCT (by decide),aOO,aCT (by decide),aCT (by decide),aOO,aCT (by decide),fun j _ h=>by omega,fun j _ h=>by omega,fun j _ h=>by omega,fun j _ h=>by omega⟩
 | succ n ih =>
  obtain ⟨i1,i2,i3,i4,i5,i6,i7,i8,i9,i10⟩:=ih
  exact ⟨bHs hl i3 i2,bFh hl i4 i2,bE1 hl i1 i9,bGZ hl i6 i5,bE9 hl i5,bFt hl i7,bDW hl i8 i7,bEQ hl i4,bDc hl i10 i9,bFE hl i4 i1⟩
end
end Go.Proofs.YtjhfgiieicloeaaGreatDoor

/- The program's parser of modules, at any place. -/
namespace Go.Proofs.YtjhfgiieicloeaaGreatDoor
open Go Go.Am Go.Sx
def bJa (g:LT):List Tr×Int×Int:=(if g.2.2=0 then g.1 else [],((g.2.1:Nat):Int),g.2.2)
section
variable {l:List aF} (hl:l.length≤20000)
include hl
theorem bFj {i:Int} (h:0≤i∧i≤(l.length:Int)):Ev (fun K=>aFm K l i) (l,i,0):=by
 have:=hl
 refine Ev.congr (f:=fun K=>_) ?_ (fun k=>by rw [aFm])
 exact Ev.dF (by omega) (Ev.dF (by omega) Ev.pure)
theorem bFb {n i:Nat} {top:Bool} (hi:i≤l.length) (hn:8 * (l.length - i)+2≤n):Ev (fun K=>aEC K l (i:Int) top) (bJa (yE l n top [] i)):=by
 obtain ⟨⟨a,l',i',e'⟩,h1,h2,h3,h4,h5,_⟩:=bDv ((bIq hl n).2.2.2.2.2.2.2.2.1 i hi hn top [] (by simp))
 simp only at h2 h3 h4 h5
 subst h2 h3 h4
 refine Ev.congr (f:=fun K=>_) ?_ (fun k=>by rw [aEC])
 refine Ev.bind (bFj hl (by omega)) ?_
 refine Ev.bind h1 ?_
 unfold bJa
 refine Ev.n (fun he=>Ev.pure' (by rw [if_neg he])) (fun he=>Ev.pure' (by rw [if_pos he,he,h5 he]))
end
end Go.Proofs.YtjhfgiieicloeaaGreatDoor

