/- Joined texts: M1, M2, M3a. -/
import Derived.Test.YtjhfgiieicloeaaGreatDoorGy
/- The parser of modules as plain functions of the tokens. -/
namespace Go.Proofs.YtjhfgiieicloeaaGreatDoor
open Go Go.Am Go.Sx
abbrev LT:=List Tr×Nat×Int
def lgR (l:List aI) (i:Nat):List UInt8×Nat×Int:=if (aDq l (i:Int)).2=true then ((aDq l (i:Int)).1,i+1,0) else ([],i,6)
def exR (l:List aI) (i:Nat):RT:=fD l (8 * l.length+6) i
def cnR (l:List aI) (i:Nat):LT:=aHM l (3 * l.length+3) i []
def bhd {α:Type} (d:α) (l:List aI) (s:List UInt8) (f:Nat→α×Nat×Int) (i:Nat):α×Nat×Int:=bnd d (ks l [s] i) fun _ j=>f j
def aB7 (l:List aI) (i:Nat) (t:List (List UInt8)):Bool:=t.any fun s=>bE l (i:Int) s
abbrev yW:List UInt8:=[118,97,108]
abbrev fL:List UInt8:=[116,121,112,101]
abbrev mM:List UInt8:=[100,97,116,97,116,121,112,101]
abbrev aAH:List UInt8:=[115,116,114,117,99,116,117,114,101]
abbrev aAD:List UInt8:=[105,110,99,108,117,100,101]
abbrev aBF:List UInt8:=[115,104,97,114,105,110,103]
abbrev aAZ:List UInt8:=[111,112,101,110]
abbrev aJ3:List UInt8:=[115,105,103,110,97,116,117,114,101]
abbrev aKb:List UInt8:=[102,117,110,99,116,111,114]
abbrev aLL:List UInt8:=[115,116,114,117,99,116]
abbrev kSg:List UInt8:=[115,105,103]
abbrev aHe:List UInt8:=[101,110,100]
abbrev aEY:List UInt8:=[119,104,101,114,101]
mutual
def yP (l:List aI):Nat→Nat→RT
 | 0,i=>(.nil,i,6)
 | n+1,i=>bnd .nil (aDU l n i) fun m i=>aD3 l n m i
def aD3 (l:List aI):Nat→Tr→Nat→RT
 | 0,_,i=>(.nil,i,6)
 | n+1,m,i =>
  if bE l (i:Int) [58]=true then bnd .nil (rL l n (i+1)) fun s i=>aD3 l n (.node 43 0 [] [] [m,s]) i
  else if bE l (i:Int) [58,62]=true then bnd .nil (rL l n (i+1)) fun s i=>aD3 l n (.node 43 1 [] [] [m,s]) i
  else (m,i,0)
def aDU (l:List aI):Nat→Nat→RT
 | 0,i=>(.nil,i,6)
 | n+1,i =>
  if bE l (i:Int) aLL=true then bnd .nil (aBq l n false [] (i+1)) fun k i=>bnd .nil (ks l [aHe] i) fun _ i=>(.node 40 0 [] [] k,i,0)
  else if bE l (i:Int) [40]=true then bnd .nil (yP l n (i+1)) fun m i=>bnd .nil (ks l [[41]] i) fun _ i=>(m,i,0)
  else if (pX l (i:Int)).2=true∧bE l ((i+1:Nat):Int) [40]=true then bnd .nil (yP l n (i+2)) fun m j=>bnd .nil (ks l [[41]] j) fun _ j=>(.node 42 0 (pX l (i:Int)).1 [] [m],j,0)
  else bnd .nil (lgR l i) fun s i=>(.node 41 0 s [] [],i,0)
def rL (l:List aI):Nat→Nat→RT
 | 0,i=>(.nil,i,6)
 | n+1,i=>bnd .nil (aGF l n i) fun s i=>aGn l n s i
def aGn (l:List aI):Nat→Tr→Nat→RT
 | 0,_,i=>(.nil,i,6)
 | n+1,s,i =>
  if bE l (i:Int) aEY=true then bnd .nil (ks l [fL] (i+1)) fun _ i=>bnd .nil (lgR l i) fun g i=>bnd .nil (ks l [[61]] i) fun _ i=>bnd .nil (tyR l i) fun t i=>aGn l n (.node 52 0 g [] [s,t]) i
  else (s,i,0)
def aGF (l:List aI):Nat→Nat→RT
 | 0,i=>(.nil,i,6)
 | n+1,i =>
  if bE l (i:Int) kSg=true then bnd .nil (aDD l n [] (i+1)) fun k i=>bnd .nil (ks l [aHe] i) fun _ i=>(.node 50 0 [] [] k,i,0)
  else bnd .nil (nmR l i) fun s i=>(.node 51 0 s [] [],i,0)
def aDD (l:List aI):Nat→List Tr→Nat→LT
 | 0,_,i=>([],i,6)
 | n+1,out,i=>if aB7 l i [yW,fL,mM,aAH,aAD,aBF]=true then bnd [] (aCd l n i) fun k i=>aDD l n (out++[k]) i else (out,i,0)
def aCd (l:List aI):Nat→Nat→RT
 | 0,i=>(.nil,i,6)
 | n+1,i =>
  if bE l (i:Int) yW=true then bnd .nil (nmR l (i+1)) fun s i=>bnd .nil (bhd .nil l [58] (fun j=>tyR l j) i) fun t i=>(.node 60 0 s [] [t],i,0)
  else if bE l (i:Int) fL=true then bnd .nil (nmR l (i+1)) fun s i=>if bE l (i:Int) [61]=true then bnd .nil (tyR l (i+1)) fun t i=>(.node 61 0 s [] [t],i,0) else (.node 61 0 s [] [],i,0)
  else if bE l (i:Int) mM=true then bnd .nil (nmR l (i+1)) fun s i=>bnd .nil (ks l [[61]] i) fun _ i=>bnd .nil (cnR l i) fun k i=>(.node 62 0 s [] k,i,0)
  else if bE l (i:Int) aAH=true then bnd .nil (nmR l (i+1)) fun s i=>bnd .nil (bhd .nil l [58] (fun j=>rL l n j) i) fun g i=>(.node 63 0 s [] [g],i,0)
  else if bE l (i:Int) aAD=true then bnd .nil (rL l n (i+1)) fun g i=>(.node 64 0 [] [] [g],i,0)
  else if bE l (i:Int) aBF=true then bnd .nil (ks l [fL] (i+1)) fun _ i=>bnd .nil (lgR l i) fun a i=>bnd .nil (ks l [[61]] i) fun _ i=>bnd .nil (lgR l i) fun b i=>(.node 65 0 a b [],i,0)
  else (.nil,i,6)
def aBq (l:List aI):Nat→Bool→List Tr→Nat→LT
 | 0,_,_,i=>([],i,6)
 | n+1,top,out,i=>if (aB7 l i [yW,fL,mM,aAH,aAZ,aAD] || (top && aB7 l i [aJ3,aKb]))=true then bnd [] (aA4 l n top i) fun k i=>aBq l n top (out++[k]) i else (out,i,0)
def aA4 (l:List aI):Nat→Bool→Nat→RT
 | 0,_,i=>(.nil,i,6)
 | n+1,top,i =>
  if bE l (i:Int) yW=true then bnd .nil (nmR l (i+1)) fun s i =>
   if bE l (i:Int) [58]=true then bnd .nil (tyR l (i+1)) fun t i=>bnd .nil (bhd .nil l [61] (fun j=>exR l j) i) fun e i=>(.node 70 0 s [] [t,e],i,0)
   else bnd .nil (bhd .nil l [61] (fun j=>exR l j) i) fun e i=>(.node 70 0 s [] [e],i,0)
  else if bE l (i:Int) fL=true then bnd .nil (nmR l (i+1)) fun s i=>bnd .nil (bhd .nil l [61] (fun j=>tyR l j) i) fun t i=>(.node 71 0 s [] [t],i,0)
  else if bE l (i:Int) mM=true then bnd .nil (nmR l (i+1)) fun s i=>bnd .nil (ks l [[61]] i) fun _ i=>bnd .nil (cnR l i) fun k i=>(.node 72 0 s [] k,i,0)
  else if bE l (i:Int) aAH=true then bnd .nil (nmR l (i+1)) fun s i=>bnd .nil (bhd .nil l [61] (fun j=>yP l n j) i) fun m i=>(.node 73 0 s [] [m],i,0)
  else if bE l (i:Int) aAZ=true then bnd .nil (lgR l (i+1)) fun s i=>(.node 76 0 s [] [],i,0)
  else if bE l (i:Int) aAD=true then bnd .nil (lgR l (i+1)) fun s i=>(.node 77 0 s [] [],i,0)
  else if top=true∧bE l (i:Int) aJ3=true then bnd .nil (nmR l (i+1)) fun s i=>bnd .nil (bhd .nil l [61] (fun j=>rL l n j) i) fun g i=>(.node 74 0 s [] [g],i,0)
  else if top=true∧bE l (i:Int) aKb=true then bnd .nil (nmR l (i+1)) fun s i=>bnd .nil (ks l [[40]] i) fun _ i=>bnd .nil (nmR l i) fun m i=>bnd .nil (bhd .nil l [58] (fun j=>rL l n j) i) fun g i=>bnd .nil (ks l [[41]] i) fun _ i=>bnd .nil (bhd .nil l [61] (fun j=>yP l n j) i) fun d i=>(.node 75 0 s m [g,d],i,0)
  else (.nil,i,6)
end
theorem aJx {l:List aI} {i:Nat} (h:i≤l.length):Bw l i (lgR l i):=by
 unfold lgR
 by_cases hk:(aDq l (i:Int)).2=true
 ·rw [if_pos hk]
  have:=aW9 hk
  exact ⟨by simp only; omega,by simp only; omega⟩
 ·rw [if_neg hk]; exact ⟨Nat.le_refl _,h⟩
theorem aJK {l:List aI} {i:Nat} (h:(lgR l i).2.2=0):(lgR l i).2.1=i+1:=by
 unfold lgR at h ⊢
 by_cases hk:(aDq l (i:Int)).2=true
 ·rw [if_pos hk]
 ·rw [if_neg hk] at h; exact absurd (show (6:Int)=0 from h) (by decide)
end Go.Proofs.YtjhfgiieicloeaaGreatDoor

/- Where the parser of modules stands: bounds of its plain functions. Printed by gen8/m2.py. -/
namespace Go.Proofs.YtjhfgiieicloeaaGreatDoor
open Go Go.Am Go.Sx
def Pr (l:List aI) (i0:Nat) (out:List Tr) (g:LT):Prop:=i0≤g.2.1∧g.2.1≤l.length∧(g.2.2=0→wL g.1+2 * i0≤wL out+2 * g.2.1)
theorem bED {α:Type} {l:List aI} {i0:Nat} {out:List Tr} {r:α×Nat×Int} {f:α→Nat→LT} (h1:i0≤r.2.1) (h2:r.2.1≤l.length) (hf:r.2.2=0→Pr l i0 out (f r.1 r.2.1)):Pr l i0 out (bnd [] r f):=by
 unfold bnd
 by_cases h0:r.2.2=0
 ·rw [if_pos h0]; exact hf h0
 ·rw [if_neg h0]; exact ⟨h1,h2,fun h=>absurd h h0⟩
section
variable {l:List aI} (hl:l.length≤20000)
include hl
theorem bAR {i:Nat} (hi:i≤l.length):Pz l i (2 * i) (exR l i):=nM hl _ i hi
theorem bBe {i:Nat} (hi:i≤l.length):Pq l i [] 0 (cnR l i):=by
 obtain ⟨c',_,h5,h4,h3⟩:=(aXl hl (3 * l.length+3) i hi).2.2.2 (by omega) [] [] (fun s=>by simp [jD]) (by simp)
 unfold cnR
 refine ⟨h4,h3,fun h=>?_⟩
 obtain ⟨_,h6,h7⟩:=h5 h
 exact ⟨h6,by omega⟩
omit hl in
theorem aCh {s:List UInt8} {f:Nat→RT} {i:Nat} (hi:i≤l.length) (hf:∀ j,j≤l.length→Pz l j (2 * j) (f j)):Pz l i (2 * i) (bhd .nil l s f i):=by
 have b:=eN l [s] i hi
 unfold bhd
 generalize ks l [s] i=g at *
 obtain ⟨b1,b2⟩:=b
 refine aT b1 b2 fun _=>?_
 obtain ⟨c1,c2,c3⟩:=hf g.2.1 b2
 exact ⟨by omega,c2,fun h=>by have:=c3 h; omega⟩
theorem bAt:∀ n i,i≤l.length→Pz l i (2 * i) (yP l n i)∧(∀ i0 lo m,i0<i→m.w+1+lo≤2 * i→Pz l i0 lo (aD3 l n m i))∧Pz l i (2 * i) (aDU l n i)∧Pz l i (2 * i) (rL l n i)∧(∀ i0 lo m,i0<i→m.w+1+lo≤2 * i→Pz l i0 lo (aGn l n m i)) ∧
  Pz l i (2 * i) (aGF l n i)∧(∀ out,Pr l i out (aDD l n out i))∧Pz l i (2 * i) (aCd l n i)∧(∀ top out,Pr l i out (aBq l n top out i))∧(∀ top,Pz l i (2 * i) (aA4 l n top i)):=by
 intro n
 induction n with
 | zero =>
  intro i hi
  refine ⟨?_,fun i0 lo m h _=>?_,?_,?_,fun i0 lo m h _=>?_,?_,fun out=>?_,?_,fun top out=>?_,fun top=>?_⟩
  ·rw [yP]; exact nG (Nat.le_refl _) hi (by decide)
  ·rw [aD3]; exact nG (by omega) hi (by decide)
  ·rw [aDU]; exact nG (Nat.le_refl _) hi (by decide)
  ·rw [rL]; exact nG (Nat.le_refl _) hi (by decide)
  ·rw [aGn]; exact nG (by omega) hi (by decide)
  ·rw [aGF]; exact nG (Nat.le_refl _) hi (by decide)
  ·rw [aDD]; exact ⟨Nat.le_refl _,hi,fun h=>absurd (show (6:Int)=0 from h) (by decide)⟩
  ·rw [aCd]; exact nG (Nat.le_refl _) hi (by decide)
  ·rw [aBq]; exact ⟨Nat.le_refl _,hi,fun h=>absurd (show (6:Int)=0 from h) (by decide)⟩
  ·rw [aA4]; exact nG (Nat.le_refl _) hi (by decide)
 | succ n ih =>
  intro i hi
  have ihM:∀ j,j≤l.length→Pz l j (2 * j) (yP l n j):=fun j h=>(ih j h).1
  have ihML:∀ j,j≤l.length→∀ i0 lo m,i0<j→m.w+1+lo≤2 * j→Pz l i0 lo (aD3 l n m j):=fun j h=>(ih j h).2.1
  have ihP:∀ j,j≤l.length→Pz l j (2 * j) (aDU l n j):=fun j h=>(ih j h).2.2.1
  have ihS:∀ j,j≤l.length→Pz l j (2 * j) (rL l n j):=fun j h=>(ih j h).2.2.2.1
  have ihSL:∀ j,j≤l.length→∀ i0 lo m,i0<j→m.w+1+lo≤2 * j→Pz l i0 lo (aGn l n m j):=fun j h=>(ih j h).2.2.2.2.1
  have ihB:∀ j,j≤l.length→Pz l j (2 * j) (aGF l n j):=fun j h=>(ih j h).2.2.2.2.2.1
  have ihSs:∀ out j,j≤l.length→Pr l j out (aDD l n out j):=fun out j h=>(ih j h).2.2.2.2.2.2.1 out
  have ihSp:∀ j,j≤l.length→Pz l j (2 * j) (aCd l n j):=fun j h=>(ih j h).2.2.2.2.2.2.2.1
  have ihDs:∀ top out j,j≤l.length→Pr l j out (aBq l n top out j):=fun top out j h=>(ih j h).2.2.2.2.2.2.2.2.1 top out
  have ihD:∀ top j,j≤l.length→Pz l j (2 * j) (aA4 l n top j):=fun top j h=>(ih j h).2.2.2.2.2.2.2.2.2 top
  refine ⟨?_,fun i0 lo m ha hw=>?_,?_,?_,fun i0 lo m ha hw=>?_,?_,fun out=>?_,?_,fun top out=>?_,fun top=>?_⟩
  ·rw [yP]
   have b:=ihP (i) (by omega)
   generalize aDU l n (i)=g1 at *
   obtain ⟨g1a,g1b,g1c⟩:=b
   refine aT (by omega) g1b fun h1=>?_
   have g1c:=g1c h1
   exact ihML g1.2.1 g1b i (2 * i) g1.1 (by omega) (by omega)
  ·rw [aD3]
   by_cases k0:bE l (i:Int) [58]=true
   ·rw [if_pos k0]
    have hin:=aX k0
    have b:=ihS (i+1) (by omega)
    generalize rL l n (i+1)=g1 at *
    obtain ⟨g1a,g1b,g1c⟩:=b
    refine aT (by omega) g1b fun h1=>?_
    have g1c:=g1c h1
    exact ihML g1.2.1 g1b i0 lo _ (by omega) (by simp only [aJ,aD,aK]; omega)
   rw [if_neg k0]
   by_cases k1:bE l (i:Int) [58,62]=true
   ·rw [if_pos k1]
    have hin:=aX k1
    have b:=ihS (i+1) (by omega)
    generalize rL l n (i+1)=g1 at *
    obtain ⟨g1a,g1b,g1c⟩:=b
    refine aT (by omega) g1b fun h1=>?_
    have g1c:=g1c h1
    exact ihML g1.2.1 g1b i0 lo _ (by omega) (by simp only [aJ,aD,aK]; omega)
   rw [if_neg k1]
   exact ⟨by simp only; omega,hi,fun _=>⟨by simp only; omega,hw⟩⟩
  ·rw [aDU]
   by_cases k0:bE l (i:Int) aLL=true
   ·rw [if_pos k0]
    have hin:=aX k0
    have b:=ihDs false [] (i+1) (by omega)
    generalize aBq l n false [] (i+1)=g1 at *
    obtain ⟨g1a,g1b,g1c⟩:=b
    refine aT (by omega) g1b fun h1=>?_
    have g1c:=g1c h1
    rw [aK] at g1c
    have b:=eN l [aHe] (g1.2.1) (by omega)
    generalize ks l [aHe] (g1.2.1)=g2 at *
    obtain ⟨g2a,g2b⟩:=b
    refine aT (by omega) g2b fun h2=>?_
    exact ⟨by simp only; omega,by simp only; omega,fun _=>⟨by simp only; omega,by simp only [aJ,aD,aK]; omega⟩⟩
   rw [if_neg k0]
   by_cases k1:bE l (i:Int) [40]=true
   ·rw [if_pos k1]
    have hin:=aX k1
    have b:=ihM (i+1) (by omega)
    generalize yP l n (i+1)=g1 at *
    obtain ⟨g1a,g1b,g1c⟩:=b
    refine aT (by omega) g1b fun h1=>?_
    have g1c:=g1c h1
    have b:=eN l [[41]] (g1.2.1) (by omega)
    generalize ks l [[41]] (g1.2.1)=g2 at *
    obtain ⟨g2a,g2b⟩:=b
    refine aT (by omega) g2b fun h2=>?_
    exact ⟨by simp only; omega,by simp only; omega,fun _=>⟨by simp only; omega,by simp only; omega⟩⟩
   rw [if_neg k1]
   by_cases k2:(pX l (i:Int)).2=true∧bE l ((i+1:Nat):Int) [40]=true
   ·rw [if_pos k2]
    have hin:=aX k2.2
    have b:=ihM (i+2) (by omega)
    generalize yP l n (i+2)=g1 at *
    obtain ⟨g1a,g1b,g1c⟩:=b
    refine aT (by omega) g1b fun h1=>?_
    have g1c:=g1c h1
    have b:=eN l [[41]] (g1.2.1) (by omega)
    generalize ks l [[41]] (g1.2.1)=g2 at *
    obtain ⟨g2a,g2b⟩:=b
    refine aT (by omega) g2b fun h2=>?_
    exact ⟨by simp only; omega,by simp only; omega,fun _=>⟨by simp only; omega,by simp only [aJ,aD,aK]; omega⟩⟩
   rw [if_neg k2]
   have b:=aJx (l:=l) (i:=i) (by omega)
   have sN:=aJK (l:=l) (i:=i)
   generalize lgR l (i)=g1 at *
   obtain ⟨g1a,g1b⟩:=b
   refine aT (by omega) g1b fun h1=>?_
   have s1:=sN h1
   exact ⟨by simp only; omega,by simp only; omega,fun _=>⟨by simp only; omega,by simp only [aJ,aD,aK]; omega⟩⟩
  ·rw [rL]
   have b:=ihB (i) (by omega)
   generalize aGF l n (i)=g1 at *
   obtain ⟨g1a,g1b,g1c⟩:=b
   refine aT (by omega) g1b fun h1=>?_
   have g1c:=g1c h1
   exact ihSL g1.2.1 g1b i (2 * i) g1.1 (by omega) (by omega)
  ·rw [aGn]
   by_cases k0:bE l (i:Int) aEY=true
   ·rw [if_pos k0]
    have hin:=aX k0
    have b:=eN l [fL] (i+1) (by omega)
    generalize ks l [fL] (i+1)=g1 at *
    obtain ⟨g1a,g1b⟩:=b
    refine aT (by omega) g1b fun h1=>?_
    have b:=aJx (l:=l) (i:=g1.2.1) (by omega)
    have sN:=aJK (l:=l) (i:=g1.2.1)
    generalize lgR l (g1.2.1)=g2 at *
    obtain ⟨g2a,g2b⟩:=b
    refine aT (by omega) g2b fun h2=>?_
    have s2:=sN h2
    have b:=eN l [[61]] (g2.2.1) (by omega)
    generalize ks l [[61]] (g2.2.1)=g3 at *
    obtain ⟨g3a,g3b⟩:=b
    refine aT (by omega) g3b fun h3=>?_
    have b:=aGP hl (i:=g3.2.1) (by omega)
    generalize tyR l (g3.2.1)=g4 at *
    obtain ⟨g4a,g4b,g4c⟩:=b
    refine aT (by omega) g4b fun h4=>?_
    have g4c:=g4c h4
    exact ihSL g4.2.1 g4b i0 lo _ (by omega) (by simp only [aJ,aD,aK]; omega)
   rw [if_neg k0]
   exact ⟨by simp only; omega,hi,fun _=>⟨by simp only; omega,hw⟩⟩
  ·rw [aGF]
   by_cases k0:bE l (i:Int) kSg=true
   ·rw [if_pos k0]
    have hin:=aX k0
    have b:=ihSs [] (i+1) (by omega)
    generalize aDD l n [] (i+1)=g1 at *
    obtain ⟨g1a,g1b,g1c⟩:=b
    refine aT (by omega) g1b fun h1=>?_
    have g1c:=g1c h1
    rw [aK] at g1c
    have b:=eN l [aHe] (g1.2.1) (by omega)
    generalize ks l [aHe] (g1.2.1)=g2 at *
    obtain ⟨g2a,g2b⟩:=b
    refine aT (by omega) g2b fun h2=>?_
    exact ⟨by simp only; omega,by simp only; omega,fun _=>⟨by simp only; omega,by simp only [aJ,aD,aK]; omega⟩⟩
   rw [if_neg k0]
   have b:=oK (l:=l) (i:=i) (by omega)
   have sN:=rN (l:=l) (i:=i)
   generalize nmR l (i)=g1 at *
   obtain ⟨g1a,g1b⟩:=b
   refine aT (by omega) g1b fun h1=>?_
   have s1:=sN h1
   exact ⟨by simp only; omega,by simp only; omega,fun _=>⟨by simp only; omega,by simp only [aJ,aD,aK]; omega⟩⟩
  ·rw [aDD]
   by_cases k0:aB7 l i [yW,fL,mM,aAH,aAD,aBF]=true
   ·rw [if_pos k0]
    have b:=ihSp i (by omega)
    generalize aCd l n i=g1 at *
    obtain ⟨g1a,g1b,g1c⟩:=b
    refine bED (by omega) g1b fun h1=>?_
    have g1c:=g1c h1
    have b:=ihSs (out++[g1.1]) g1.2.1 g1b
    obtain ⟨q1,q2,q3⟩:=b
    refine ⟨by omega,q2,fun h=>?_⟩
    have:=q3 h
    rw [aIc,aD,aK] at this
    omega
   rw [if_neg k0]
   exact ⟨by simp only; omega,hi,fun _=>by simp only; omega⟩
  ·rw [aCd]
   by_cases k0:bE l (i:Int) yW=true
   ·rw [if_pos k0]
    have hin:=aX k0
    have b:=oK (l:=l) (i:=i+1) (by omega)
    have sN:=rN (l:=l) (i:=i+1)
    generalize nmR l (i+1)=g1 at *
    obtain ⟨g1a,g1b⟩:=b
    refine aT (by omega) g1b fun h1=>?_
    have s1:=sN h1
    have b:=aCh (s:=[58]) (f:=fun j=>tyR l j) (i:=g1.2.1) (by omega) (fun j hj=>aGP hl hj)
    generalize bhd .nil l [58] (fun j=>tyR l j) (g1.2.1)=g2 at *
    obtain ⟨g2a,g2b,g2c⟩:=b
    refine aT (by omega) g2b fun h2=>?_
    have g2c:=g2c h2
    exact ⟨by simp only; omega,by simp only; omega,fun _=>⟨by simp only; omega,by simp only [aJ,aD,aK]; omega⟩⟩
   rw [if_neg k0]
   by_cases k1:bE l (i:Int) fL=true
   ·rw [if_pos k1]
    have hin:=aX k1
    have b:=oK (l:=l) (i:=i+1) (by omega)
    have sN:=rN (l:=l) (i:=i+1)
    generalize nmR l (i+1)=g1 at *
    obtain ⟨g1a,g1b⟩:=b
    refine aT (by omega) g1b fun h1=>?_
    have s1:=sN h1
    by_cases j1:bE l (g1.2.1:Int) [61]=true
    ·rw [if_pos j1]
     have hin2:=aX j1
     have b:=aGP hl (i:=g1.2.1+1) (by omega)
     generalize tyR l (g1.2.1+1)=g2 at *
     obtain ⟨g2a,g2b,g2c⟩:=b
     refine aT (by omega) g2b fun h2=>?_
     have g2c:=g2c h2
     exact ⟨by simp only; omega,by simp only; omega,fun _=>⟨by simp only; omega,by simp only [aJ,aD,aK]; omega⟩⟩
    rw [if_neg j1]
    exact ⟨by simp only; omega,by simp only; omega,fun _=>⟨by simp only; omega,by simp only [aJ,aD,aK]; omega⟩⟩
   rw [if_neg k1]
   by_cases k2:bE l (i:Int) mM=true
   ·rw [if_pos k2]
    have hin:=aX k2
    have b:=oK (l:=l) (i:=i+1) (by omega)
    have sN:=rN (l:=l) (i:=i+1)
    generalize nmR l (i+1)=g1 at *
    obtain ⟨g1a,g1b⟩:=b
    refine aT (by omega) g1b fun h1=>?_
    have s1:=sN h1
    have b:=eN l [[61]] (g1.2.1) (by omega)
    generalize ks l [[61]] (g1.2.1)=g2 at *
    obtain ⟨g2a,g2b⟩:=b
    refine aT (by omega) g2b fun h2=>?_
    have b:=bBe hl (i:=g2.2.1) (by omega)
    generalize cnR l (g2.2.1)=g3 at *
    obtain ⟨g3a,g3b,g3c⟩:=b
    refine aT (by omega) g3b fun h3=>?_
    have g3c:=g3c h3
    rw [aK] at g3c
    exact ⟨by simp only; omega,by simp only; omega,fun _=>⟨by simp only; omega,by simp only [aJ,aD,aK]; omega⟩⟩
   rw [if_neg k2]
   by_cases k3:bE l (i:Int) aAH=true
   ·rw [if_pos k3]
    have hin:=aX k3
    have b:=oK (l:=l) (i:=i+1) (by omega)
    have sN:=rN (l:=l) (i:=i+1)
    generalize nmR l (i+1)=g1 at *
    obtain ⟨g1a,g1b⟩:=b
    refine aT (by omega) g1b fun h1=>?_
    have s1:=sN h1
    have b:=aCh (s:=[58]) (f:=fun j=>rL l n j) (i:=g1.2.1) (by omega) (fun j hj=>ihS j hj)
    generalize bhd .nil l [58] (fun j=>rL l n j) (g1.2.1)=g2 at *
    obtain ⟨g2a,g2b,g2c⟩:=b
    refine aT (by omega) g2b fun h2=>?_
    have g2c:=g2c h2
    exact ⟨by simp only; omega,by simp only; omega,fun _=>⟨by simp only; omega,by simp only [aJ,aD,aK]; omega⟩⟩
   rw [if_neg k3]
   by_cases k4:bE l (i:Int) aAD=true
   ·rw [if_pos k4]
    have hin:=aX k4
    have b:=ihS (i+1) (by omega)
    generalize rL l n (i+1)=g1 at *
    obtain ⟨g1a,g1b,g1c⟩:=b
    refine aT (by omega) g1b fun h1=>?_
    have g1c:=g1c h1
    exact ⟨by simp only; omega,by simp only; omega,fun _=>⟨by simp only; omega,by simp only [aJ,aD,aK]; omega⟩⟩
   rw [if_neg k4]
   by_cases k5:bE l (i:Int) aBF=true
   ·rw [if_pos k5]
    have hin:=aX k5
    have b:=eN l [fL] (i+1) (by omega)
    generalize ks l [fL] (i+1)=g1 at *
    obtain ⟨g1a,g1b⟩:=b
    refine aT (by omega) g1b fun h1=>?_
    have b:=aJx (l:=l) (i:=g1.2.1) (by omega)
    have sN:=aJK (l:=l) (i:=g1.2.1)
    generalize lgR l (g1.2.1)=g2 at *
    obtain ⟨g2a,g2b⟩:=b
    refine aT (by omega) g2b fun h2=>?_
    have s2:=sN h2
    have b:=eN l [[61]] (g2.2.1) (by omega)
    generalize ks l [[61]] (g2.2.1)=g3 at *
    obtain ⟨g3a,g3b⟩:=b
    refine aT (by omega) g3b fun h3=>?_
    have b:=aJx (l:=l) (i:=g3.2.1) (by omega)
    have sN:=aJK (l:=l) (i:=g3.2.1)
    generalize lgR l (g3.2.1)=g4 at *
    obtain ⟨g4a,g4b⟩:=b
    refine aT (by omega) g4b fun h4=>?_
    have s4:=sN h4
    exact ⟨by simp only; omega,by simp only; omega,fun _=>⟨by simp only; omega,by simp only [aJ,aD,aK]; omega⟩⟩
   rw [if_neg k5]
   exact nG (Nat.le_refl _) hi (by decide)
  ·rw [aBq]
   by_cases k0:(aB7 l i [yW,fL,mM,aAH,aAZ,aAD] || (top && aB7 l i [aJ3,aKb]))=true
   ·rw [if_pos k0]
    have b:=ihD top i (by omega)
    generalize aA4 l n top i=g1 at *
    obtain ⟨g1a,g1b,g1c⟩:=b
    refine bED (by omega) g1b fun h1=>?_
    have g1c:=g1c h1
    have b:=ihDs top (out++[g1.1]) g1.2.1 g1b
    obtain ⟨q1,q2,q3⟩:=b
    refine ⟨by omega,q2,fun h=>?_⟩
    have:=q3 h
    rw [aIc,aD,aK] at this
    omega
   rw [if_neg k0]
   exact ⟨by simp only; omega,hi,fun _=>by simp only; omega⟩
  ·rw [aA4]
   by_cases k0:bE l (i:Int) yW=true
   ·rw [if_pos k0]
    have hin:=aX k0
    have b:=oK (l:=l) (i:=i+1) (by omega)
    have sN:=rN (l:=l) (i:=i+1)
    generalize nmR l (i+1)=g1 at *
    obtain ⟨g1a,g1b⟩:=b
    refine aT (by omega) g1b fun h1=>?_
    have s1:=sN h1
    by_cases j0:bE l (g1.2.1:Int) [58]=true
    ·rw [if_pos j0]
     have hin2:=aX j0
     have b:=aGP hl (i:=g1.2.1+1) (by omega)
     generalize tyR l (g1.2.1+1)=g2 at *
     obtain ⟨g2a,g2b,g2c⟩:=b
     refine aT (by omega) g2b fun h2=>?_
     have g2c:=g2c h2
     have b:=aCh (s:=[61]) (f:=fun j=>exR l j) (i:=g2.2.1) (by omega) (fun j hj=>bAR hl hj)
     generalize bhd .nil l [61] (fun j=>exR l j) (g2.2.1)=g3 at *
     obtain ⟨g3a,g3b,g3c⟩:=b
     refine aT (by omega) g3b fun h3=>?_
     have g3c:=g3c h3
     exact ⟨by simp only; omega,by simp only; omega,fun _=>⟨by simp only; omega,by simp only [aJ,aD,aK]; omega⟩⟩
    rw [if_neg j0]
    have b:=aCh (s:=[61]) (f:=fun j=>exR l j) (i:=g1.2.1) (by omega) (fun j hj=>bAR hl hj)
    generalize bhd .nil l [61] (fun j=>exR l j) (g1.2.1)=g2 at *
    obtain ⟨g2a,g2b,g2c⟩:=b
    refine aT (by omega) g2b fun h2=>?_
    have g2c:=g2c h2
    exact ⟨by simp only; omega,by simp only; omega,fun _=>⟨by simp only; omega,by simp only [aJ,aD,aK]; omega⟩⟩
   rw [if_neg k0]
   by_cases k1:bE l (i:Int) fL=true
   ·rw [if_pos k1]
    have hin:=aX k1
    have b:=oK (l:=l) (i:=i+1) (by omega)
    have sN:=rN (l:=l) (i:=i+1)
    generalize nmR l (i+1)=g1 at *
    obtain ⟨g1a,g1b⟩:=b
    refine aT (by omega) g1b fun h1=>?_
    have s1:=sN h1
    have b:=aCh (s:=[61]) (f:=fun j=>tyR l j) (i:=g1.2.1) (by omega) (fun j hj=>aGP hl hj)
    generalize bhd .nil l [61] (fun j=>tyR l j) (g1.2.1)=g2 at *
    obtain ⟨g2a,g2b,g2c⟩:=b
    refine aT (by omega) g2b fun h2=>?_
    have g2c:=g2c h2
    exact ⟨by simp only; omega,by simp only; omega,fun _=>⟨by simp only; omega,by simp only [aJ,aD,aK]; omega⟩⟩
   rw [if_neg k1]
   by_cases k2:bE l (i:Int) mM=true
   ·rw [if_pos k2]
    have hin:=aX k2
    have b:=oK (l:=l) (i:=i+1) (by omega)
    have sN:=rN (l:=l) (i:=i+1)
    generalize nmR l (i+1)=g1 at *
    obtain ⟨g1a,g1b⟩:=b
    refine aT (by omega) g1b fun h1=>?_
    have s1:=sN h1
    have b:=eN l [[61]] (g1.2.1) (by omega)
    generalize ks l [[61]] (g1.2.1)=g2 at *
    obtain ⟨g2a,g2b⟩:=b
    refine aT (by omega) g2b fun h2=>?_
    have b:=bBe hl (i:=g2.2.1) (by omega)
    generalize cnR l (g2.2.1)=g3 at *
    obtain ⟨g3a,g3b,g3c⟩:=b
    refine aT (by omega) g3b fun h3=>?_
    have g3c:=g3c h3
    rw [aK] at g3c
    exact ⟨by simp only; omega,by simp only; omega,fun _=>⟨by simp only; omega,by simp only [aJ,aD,aK]; omega⟩⟩
   rw [if_neg k2]
   by_cases k3:bE l (i:Int) aAH=true
   ·rw [if_pos k3]
    have hin:=aX k3
    have b:=oK (l:=l) (i:=i+1) (by omega)
    have sN:=rN (l:=l) (i:=i+1)
    generalize nmR l (i+1)=g1 at *
    obtain ⟨g1a,g1b⟩:=b
    refine aT (by omega) g1b fun h1=>?_
    have s1:=sN h1
    have b:=aCh (s:=[61]) (f:=fun j=>yP l n j) (i:=g1.2.1) (by omega) (fun j hj=>ihM j hj)
    generalize bhd .nil l [61] (fun j=>yP l n j) (g1.2.1)=g2 at *
    obtain ⟨g2a,g2b,g2c⟩:=b
    refine aT (by omega) g2b fun h2=>?_
    have g2c:=g2c h2
    exact ⟨by simp only; omega,by simp only; omega,fun _=>⟨by simp only; omega,by simp only [aJ,aD,aK]; omega⟩⟩
   rw [if_neg k3]
   by_cases k4:bE l (i:Int) aAZ=true
   ·rw [if_pos k4]
    have hin:=aX k4
    have b:=aJx (l:=l) (i:=i+1) (by omega)
    have sN:=aJK (l:=l) (i:=i+1)
    generalize lgR l (i+1)=g1 at *
    obtain ⟨g1a,g1b⟩:=b
    refine aT (by omega) g1b fun h1=>?_
    have s1:=sN h1
    exact ⟨by simp only; omega,by simp only; omega,fun _=>⟨by simp only; omega,by simp only [aJ,aD,aK]; omega⟩⟩
   rw [if_neg k4]
   by_cases k5:bE l (i:Int) aAD=true
   ·rw [if_pos k5]
    have hin:=aX k5
    have b:=aJx (l:=l) (i:=i+1) (by omega)
    have sN:=aJK (l:=l) (i:=i+1)
    generalize lgR l (i+1)=g1 at *
    obtain ⟨g1a,g1b⟩:=b
    refine aT (by omega) g1b fun h1=>?_
    have s1:=sN h1
    exact ⟨by simp only; omega,by simp only; omega,fun _=>⟨by simp only; omega,by simp only [aJ,aD,aK]; omega⟩⟩
   rw [if_neg k5]
   by_cases k6:top=true∧bE l (i:Int) aJ3=true
   ·rw [if_pos k6]
    have hin:=aX k6.2
    have b:=oK (l:=l) (i:=i+1) (by omega)
    have sN:=rN (l:=l) (i:=i+1)
    generalize nmR l (i+1)=g1 at *
    obtain ⟨g1a,g1b⟩:=b
    refine aT (by omega) g1b fun h1=>?_
    have s1:=sN h1
    have b:=aCh (s:=[61]) (f:=fun j=>rL l n j) (i:=g1.2.1) (by omega) (fun j hj=>ihS j hj)
    generalize bhd .nil l [61] (fun j=>rL l n j) (g1.2.1)=g2 at *
    obtain ⟨g2a,g2b,g2c⟩:=b
    refine aT (by omega) g2b fun h2=>?_
    have g2c:=g2c h2
    exact ⟨by simp only; omega,by simp only; omega,fun _=>⟨by simp only; omega,by simp only [aJ,aD,aK]; omega⟩⟩
   rw [if_neg k6]
   by_cases k7:top=true∧bE l (i:Int) aKb=true
   ·rw [if_pos k7]
    have hin:=aX k7.2
    have b:=oK (l:=l) (i:=i+1) (by omega)
    have sN:=rN (l:=l) (i:=i+1)
    generalize nmR l (i+1)=g1 at *
    obtain ⟨g1a,g1b⟩:=b
    refine aT (by omega) g1b fun h1=>?_
    have s1:=sN h1
    have b:=eN l [[40]] (g1.2.1) (by omega)
    generalize ks l [[40]] (g1.2.1)=g2 at *
    obtain ⟨g2a,g2b⟩:=b
    refine aT (by omega) g2b fun h2=>?_
    have b:=oK (l:=l) (i:=g2.2.1) (by omega)
    have sN:=rN (l:=l) (i:=g2.2.1)
    generalize nmR l (g2.2.1)=g3 at *
    obtain ⟨g3a,g3b⟩:=b
    refine aT (by omega) g3b fun h3=>?_
    have s3:=sN h3
    have b:=aCh (s:=[58]) (f:=fun j=>rL l n j) (i:=g3.2.1) (by omega) (fun j hj=>ihS j hj)
    generalize bhd .nil l [58] (fun j=>rL l n j) (g3.2.1)=g4 at *
    obtain ⟨g4a,g4b,g4c⟩:=b
    refine aT (by omega) g4b fun h4=>?_
    have g4c:=g4c h4
    have b:=eN l [[41]] (g4.2.1) (by omega)
    generalize ks l [[41]] (g4.2.1)=g5 at *
    obtain ⟨g5a,g5b⟩:=b
    refine aT (by omega) g5b fun h5=>?_
    have b:=aCh (s:=[61]) (f:=fun j=>yP l n j) (i:=g5.2.1) (by omega) (fun j hj=>ihM j hj)
    generalize bhd .nil l [61] (fun j=>yP l n j) (g5.2.1)=g6 at *
    obtain ⟨g6a,g6b,g6c⟩:=b
    refine aT (by omega) g6b fun h6=>?_
    have g6c:=g6c h6
    exact ⟨by simp only; omega,by simp only; omega,fun _=>⟨by simp only; omega,by simp only [aJ,aD,aK]; omega⟩⟩
   rw [if_neg k7]
   exact nG (Nat.le_refl _) hi (by decide)
end
end Go.Proofs.YtjhfgiieicloeaaGreatDoor

/- The parser of modules: keys, names, parts of other layers, what it does behind an error. -/
namespace Go.Proofs.YtjhfgiieicloeaaGreatDoor
open Go Go.Am Go.Sx
theorem iT (c:Int) (s:List UInt8) (ks:List Tr):Ev (fun K=>fR K c s ks) (.node c 0 s [] ks):=⟨0,fun _ _=>rfl⟩
theorem aJC (c:Int) (s:List UInt8):Ev (fun K=>qV K c s) (c,0,s,[]):=⟨0,fun _ _=>rfl⟩
/-! ### behind an error -/
section
variable (l:List aI) (i e:Int) (he:e≠0)
include he
theorem lN (t:List UInt8):Ev (fun K=>aQ K l i e t) (false,l,i,e) :=
 Ev.congr (f:=fun K=>_) (Ev.nT he Ev.pure) (fun k=>by rw [aQ])
theorem aQK (c:Int):Ev (fun K=>dK K l i e c) (l,i,e) :=
 Ev.congr (f:=fun K=>_) (Ev.dF he Ev.pure) (fun k=>by rw [dK])
theorem aTS (t:List (List UInt8)) (ht:t.length≤1000):∀ (m j:Nat),t.length=j+m→Ev (fun K=>cZ K t (j:Int) l i e) (l,i,e):=by
 intro m
 induction m with
 | zero =>
  intro j hj
  exact Ev.step (fun k=>by rw [cZ]) (Ev.dF (by omega) Ev.pure)
 | succ m ih =>
  intro j hj
  refine Ev.step (fun k=>by rw [cZ]) ?_
  refine Ev.dT (by omega) ?_
  refine Ev.opt (dX (by omega)) ?_
  refine Ev.bind (lN l i e he _) ?_
  refine Ev.isT rfl ?_
  refine Ev.bind (aQK l i e he _) ?_
  rw [cX (by omega)]
  exact ih (j+1) (by omega)
theorem jH (t:List (List UInt8)) (ht:t.length≤1000):Ev (fun K=>bC K l i e t) (l,i,e):=by
 refine Ev.congr (f:=fun K=>_) ?_ (fun k=>by rw [bC])
 exact aTS l i e he t ht t.length 0 (by omega)
theorem bCj:Ev (fun K=>gI K l i e) ([],l,i,e):=by
 refine Ev.congr (f:=fun K=>_) ?_ (fun k=>by rw [gI])
 refine Ev.bind (aDd l i) ?_
 refine Ev.nT he ?_
 exact Ev.bind (aQK l i e he 6) Ev.pure
theorem aZY:Ev (fun K=>gK K l i e) ([],l,i,e):=by
 refine Ev.congr (f:=fun K=>_) ?_ (fun k=>by rw [gK])
 refine Ev.bind (aKU l i) ?_
 refine Ev.nT he ?_
 exact Ev.bind (aQK l i e he 6) Ev.pure
theorem aQs:Ev (fun K=>bO K l i e) ([],l,i,e) :=
 Ev.congr (f:=fun K=>_) (Ev.bind (bCj l i e he) Ev.pure) (fun k=>by rw [bO])
theorem aCv:Ev (fun K=>cQ K l i e) ([],l,i,e) :=
 Ev.congr (f:=fun K=>_) (Ev.bind (aZY l i e he) Ev.pure) (fun k=>by rw [cQ])
theorem bAn:Ev (fun K=>gC K l i e) (.nil,l,i,e) :=
 Ev.congr (f:=fun K=>_) (Ev.nT he Ev.pure) (fun k=>by rw [gC])
theorem aZU:Ev (fun K=>gP K l i e) (.nil,l,i,e) :=
 Ev.congr (f:=fun K=>_) (Ev.nT he Ev.pure) (fun k=>by rw [gP])
theorem aFP:Ev (fun K=>iK K l i e) (.nil,l,i,e) :=
 Ev.congr (f:=fun K=>_) (Ev.bind (bAn l i e he) Ev.pure) (fun k=>by rw [iK])
theorem aWp:Ev (fun K=>lW K l i e) (.nil,l,i,e) :=
 Ev.congr (f:=fun K=>_) (Ev.bind (aZU l i e he) Ev.pure) (fun k=>by rw [lW])
theorem aL1:Ev (fun K=>kB K l i e) ([],l,i,e) :=
 Ev.congr (f:=fun K=>_) (Ev.nT he Ev.pure) (fun k=>by rw [kB])
theorem aWd (s:List UInt8):Ev (fun K=>eK K l i e s) (.nil,l,i,e) :=
 Ev.congr (f:=fun K=>_) (Ev.bind (jH l i e he [s] (by simp)) (Ev.bind (aFP l i e he) Ev.pure)) (fun k=>by rw [eK])
theorem aUE (s:List UInt8):Ev (fun K=>eU K l i e s) (.nil,l,i,e) :=
 Ev.congr (f:=fun K=>_) (Ev.bind (jH l i e he [s] (by simp)) (Ev.bind (aWp l i e he) Ev.pure)) (fun k=>by rw [eU])
theorem bBW:Ev (fun K=>eI K l i e) (.nil,l,i,e):=by
 refine Ev.step (fun k=>by rw [eI]) ?_
 repeat' first | refine Ev.bind (lN l i e he _) ?_ | refine Ev.isF rfl ?_
 exact Ev.pure
theorem bBY:Ev (fun K=>fQ K l i e) (.node 51 0 [] [] [],l,i,e):=by
 refine Ev.step (fun k=>by rw [fQ]) ?_
 refine Ev.bind (lN l i e he _) ?_
 refine Ev.isT rfl ?_
 refine Ev.bind (aQs l i e he) ?_
 exact Ev.bind (aJC ..) Ev.pure
theorem aEy (t:Tr):Ev (fun K=>dO K t l i e) (t,l,i,e):=by
 refine Ev.step (fun k=>by rw [dO]) ?_
 refine Ev.bind (lN l i e he _) ?_
 exact Ev.isF rfl Ev.pure
theorem aYM:Ev (fun K=>cF K l i e) (.node 51 0 [] [] [],l,i,e):=by
 refine Ev.step (fun k=>by rw [cF]) ?_
 exact Ev.bind (bBY l i e he) (aEy l i e he _)
theorem aH1 (s:List UInt8):Ev (fun K=>dC K l i e s) (.node 51 0 [] [] [],l,i,e):=by
 refine Ev.step (fun k=>by rw [dC]) ?_
 exact Ev.bind (jH l i e he [s] (by simp)) (Ev.bind (aYM l i e he) Ev.pure)
theorem bBR:Ev (fun K=>fU K l i e) (.node 41 0 [] [] [],l,i,e):=by
 refine Ev.step (fun k=>by rw [fU]) ?_
 refine Ev.bind (lN l i e he _) ?_
 refine Ev.isF rfl ?_
 refine Ev.bind (lN l i e he _) ?_
 refine Ev.isF rfl ?_
 have pn:=aDd l i
 generalize pX l i=N at *
 obtain ⟨s,b⟩:=N
 refine Ev.bind pn ?_
 refine Ev.is (fun _=>?_) (fun _=>?_)
 ·refine Ev.bind (aCS l _ _) ?_
  refine Ev.is (fun _=>?_) (fun _=>?_)
  ·refine Ev.dF he ?_
   refine Ev.bind (aCv l i e he) ?_
   exact Ev.bind (iT ..) Ev.pure
  ·refine Ev.bind (aCv l i e he) ?_
   exact Ev.bind (iT ..) Ev.pure
 ·refine Ev.bind (aCv l i e he) ?_
  exact Ev.bind (iT ..) Ev.pure
theorem aLU (t:Tr):Ev (fun K=>cV K t l i e) (t,l,i,e):=by
 refine Ev.step (fun k=>by rw [cV]) ?_
 refine Ev.bind (lN l i e he _) ?_
 refine Ev.isF rfl ?_
 refine Ev.bind (lN l i e he _) ?_
 exact Ev.isF rfl Ev.pure
theorem aX3:Ev (fun K=>dN K l i e) (.node 41 0 [] [] [],l,i,e):=by
 refine Ev.step (fun k=>by rw [dN]) ?_
 exact Ev.bind (bBR l i e he) (aLU l i e he _)
theorem aEv (s:List UInt8):Ev (fun K=>dR K l i e s) (.node 41 0 [] [] [],l,i,e):=by
 refine Ev.step (fun k=>by rw [dR]) ?_
 exact Ev.bind (jH l i e he [s] (by simp)) (Ev.bind (aX3 l i e he) Ev.pure)
theorem bBP (top:Bool):Ev (fun K=>dW K l i e top) (.nil,l,i,e):=by
 refine Ev.step (fun k=>by rw [dW]) ?_
 refine Ev.bind (lN l i e he _) (Ev.isF rfl ?_)
 refine Ev.bind (lN l i e he _) (Ev.isF rfl ?_)
 refine Ev.bind (lN l i e he _) (Ev.isF rfl ?_)
 refine Ev.bind (lN l i e he _) (Ev.isF rfl ?_)
 refine Ev.bind (lN l i e he _) (Ev.isF rfl ?_)
 refine Ev.bind (lN l i e he _) (Ev.isF rfl ?_)
 cases top with
 | false=>exact Ev.isF rfl Ev.pure
 | true =>
  refine Ev.isT rfl ?_
  refine Ev.bind (lN l i e he _) (Ev.isF rfl ?_)
  refine Ev.bind (lN l i e he _) (Ev.isF rfl ?_)
  exact Ev.pure
end
/-! ### no error yet -/
theorem gG {l:List aI} {i:Int} {t:List UInt8} (h:bE l i t=false):Ev (fun K=>aQ K l i 0 t) (false,l,i,0):=by
 refine Ev.congr (f:=fun K=>_) ?_ (fun k=>by rw [aQ])
 refine Ev.nF rfl ?_
 refine Ev.bind (aCS l i t) ?_
 exact Ev.isT (by rw [h]; rfl) Ev.pure
theorem aQG (l:List aI) (i c:Int):Ev (fun K=>dK K l i 0 c) (l,i,c) :=
 Ev.congr (f:=fun K=>_) (Ev.dT rfl Ev.pure) (fun k=>by rw [dK])
section
variable {l:List aI} (hl:l.length≤20000)
include hl
theorem pQ {i:Nat} {t:List UInt8} (h:bE l (i:Int) t=true):Ev (fun K=>aQ K l (i:Int) 0 t) (true,l,((i+1:Nat):Int),0):=by
 have hin:=aX h
 refine Ev.congr (f:=fun K=>_) ?_ (fun k=>by rw [aQ])
 refine Ev.nF rfl ?_
 refine Ev.bind (aCS l i t) ?_
 exact Ev.isF (by rw [h]; rfl) (Ev.pure' (by rw [wr1 (by omega)]))
theorem bGF (t:List (List UInt8)) (ht:t.length≤1000):∀ (m j i:Nat),t.length=j+m→Ev (fun K=>cZ K t (j:Int) l (i:Int) 0) (l,(((ks l (t.drop j) i).2.1:Nat):Int),(ks l (t.drop j) i).2.2):=by
 intro m
 induction m with
 | zero =>
  intro j i hj
  rw [List.drop_of_length_le (by omega),ks]
  exact Ev.step (fun k=>by rw [cZ]) (Ev.dF (by omega) Ev.pure)
 | succ m ih =>
  intro j i hj
  have hlt:j<t.length:=by omega
  rw [iP hlt,ks]
  refine Ev.step (fun k=>by rw [cZ]) ?_
  refine Ev.dT (by omega) ?_
  refine Ev.opt (dX hlt) ?_
  by_cases hk:bE l (i:Int) t[j]=true
  ·rw [if_pos hk]
   refine Ev.bind (pQ hl hk) ?_
   refine Ev.isF rfl ?_
   rw [cX (by omega)]
   exact ih (j+1) (i+1) (by omega)
  ·rw [if_neg hk]
   refine Ev.bind (gG (by simpa using hk)) ?_
   refine Ev.isT rfl ?_
   refine Ev.bind (aQG l i 6) ?_
   rw [cX (by omega)]
   exact aTS l i 6 (by decide) t ht m (j+1) (by omega)
theorem aHL (t:List (List UInt8)) (ht:t.length≤1000) (i:Nat):Ev (fun K=>bC K l (i:Int) 0 t) (l,(((ks l t i).2.1:Nat):Int),(ks l t i).2.2):=by
 refine Ev.congr (f:=fun K=>_) ?_ (fun k=>by rw [bC])
 exact bGF hl t ht t.length 0 i (by omega)
theorem aJT (i:Nat):Hs (fun K=>bO K l (i:Int) 0) (QS l (fun _=>True) (nmR l i)):=by
 suffices h:Hs (fun K=>gI K l (i:Int) 0) (QS l (fun _=>True) (nmR l i)) by
  obtain ⟨⟨a,l',i',e'⟩,h1,h2⟩:=h
  exact Hs.congr (f:=fun K=>_) (Hs.evb h1 (Hs.pure h2)) (fun k=>by rw [bO])
 refine Hs.congr (f:=fun K=>_) ?_ (fun k=>by rw [gI])
 have p:=aDd l i
 unfold nmR
 have hin:=aLW (l:=l) (i:=(i:Int))
 generalize pX l (i:Int)=N at *
 obtain ⟨s,b⟩:=N
 refine Hs.evb p ?_
 refine Hs.n (fun h=>absurd rfl h) (fun _=>?_)
 cases b with
 | false =>
  refine Hs.isT rfl ?_
  refine Hs.evb (aQG l i 6) ?_
  exact Hs.pure ⟨rfl,rfl,rfl,fun _=>rfl,trivial⟩
 | true =>
  have hin:=hin rfl
  refine Hs.isF rfl ?_
  exact Hs.pure ⟨rfl,by simp only [if_true]; rw [wr1 (by omega)],rfl,fun _=>rfl,trivial⟩
theorem aWl (i:Nat):Hs (fun K=>cQ K l (i:Int) 0) (QS l (fun _=>True) (lgR l i)):=by
 suffices h:Hs (fun K=>gK K l (i:Int) 0) (QS l (fun _=>True) (lgR l i)) by
  obtain ⟨⟨a,l',i',e'⟩,h1,h2⟩:=h
  exact Hs.congr (f:=fun K=>_) (Hs.evb h1 (Hs.pure h2)) (fun k=>by rw [cQ])
 refine Hs.congr (f:=fun K=>_) ?_ (fun k=>by rw [gK])
 have p:=aKU l i
 unfold lgR
 have hin:=aW9 (l:=l) (i:=(i:Int))
 generalize aDq l (i:Int)=N at *
 obtain ⟨s,b⟩:=N
 refine Hs.evb p ?_
 refine Hs.n (fun h=>absurd rfl h) (fun _=>?_)
 cases b with
 | false =>
  refine Hs.isT rfl ?_
  refine Hs.evb (aQG l i 6) ?_
  exact Hs.pure ⟨rfl,rfl,rfl,fun _=>rfl,trivial⟩
 | true =>
  have hin:=hin rfl
  refine Hs.isF rfl ?_
  exact Hs.pure ⟨rfl,by simp only [if_true]; rw [wr1 (by omega)],rfl,fun _=>rfl,trivial⟩
theorem bE0 {i:Nat} (hi:i≤l.length):Hs (fun K=>iK K l (i:Int) 0) (QS l TT (tyR l i)):=by
 refine Hs.congr (f:=fun K=>_) ?_ (fun k=>by rw [iK])
 suffices h:Hs (fun K=>gC K l (i:Int) 0) (QS l TT (tyR l i)) by
  obtain ⟨⟨a,l',i',e'⟩,h1,h2⟩:=h
  exact Hs.evb h1 (Hs.pure h2)
 refine Hs.congr (f:=fun K=>_) ?_ (fun k=>by rw [gC])
 refine Hs.n (fun h=>absurd rfl h) (fun _=>?_)
 refine Hs.evb (aXT hl hi) ?_
 refine Hs.evb (aQG l _ _) ?_
 exact Hs.pure ⟨rfl,rfl,rfl,fun he=>if_pos he,trivial⟩
theorem bI5 {i:Nat} (hi:i≤l.length):Hs (fun K=>lW K l (i:Int) 0) (QS l TT (exR l i)):=by
 refine Hs.congr (f:=fun K=>_) ?_ (fun k=>by rw [lW])
 suffices h:Hs (fun K=>gP K l (i:Int) 0) (QS l TT (exR l i)) by
  obtain ⟨⟨a,l',i',e'⟩,h1,h2⟩:=h
  exact Hs.evb h1 (Hs.pure h2)
 refine Hs.congr (f:=fun K=>_) ?_ (fun k=>by rw [gP])
 refine Hs.n (fun h=>absurd rfl h) (fun _=>?_)
 have p:=bHw hl (n:=8 * l.length+6) hi (by omega)
 refine Hs.evb p ?_
 refine Hs.evb (aQG l _ _) ?_
 exact Hs.pure ⟨rfl,rfl,rfl,fun he=>if_pos he,trivial⟩
theorem bF3 {i:Nat} (hi:i≤l.length):Hs (fun K=>kB K l (i:Int) 0) (QS l (fun a=>a.length≤40000) (cnR l i)):=by
 obtain ⟨c',h1,h5,h4,h3⟩:=(aXl hl (3 * l.length+3) i hi).2.2.2 (by omega) [] [] (fun s=>by simp [jD]) (by simp)
 unfold cnR
 generalize aHM l (3 * l.length+3) i []=g at *
 have hw:g.2.2=0→c'.length≤40000:=fun h=>by
  obtain ⟨e,_,h7⟩:=h5 h
  have:=aIW g.1
  rw [aK] at h7
  rw [e]; omega
 have hc:Ev (fun K=>aEM K l (i:Int)) (if g.2.2=0 then c' else [],((g.2.1:Nat):Int),g.2.2):=by
  refine Ev.congr (f:=fun K=>_) ?_ (fun k=>by rw [aEM])
  refine Ev.bind (aYu hl (by omega)) ?_
  refine Ev.bind (a:=(c',l,((g.2.1:Nat):Int),g.2.2)) (Ev.step (fun k=>by rw [eY]) h1) ?_
  refine Ev.n (fun he=>Ev.pure' (by rw [if_neg he])) (fun he=>Ev.pure' (by rw [if_pos he,he]))
 refine Hs.congr (f:=fun K=>_) ?_ (fun k=>by rw [kB])
 refine Hs.n (fun h=>absurd rfl h) (fun _=>?_)
 refine Hs.evb hc ?_
 refine Hs.evb (aQG l _ _) ?_
 refine Hs.pure ⟨rfl,rfl,rfl,fun he=>?_,?_⟩
 ·simp only; rw [if_pos he]; exact (h5 he).1
 ·simp only
  by_cases he:g.2.2=0
  ·rw [if_pos he]; exact hw he
  ·rw [if_neg he]; simp
theorem aSI {s:List UInt8} {F:Nat→List aI→Int→Int→Option (Tr×List aI×Int×Int)} {B:Nat→Option (Tr×List aI×Int×Int)} {f:Nat→RT} {i:Nat} {v:Tr} (hi:i≤l.length)
  (hB:∀ Q:Tr×List aI×Int×Int→Prop,Hs (fun K=>(bC K l (i:Int) 0 [s]).bind fun (v1,v2,v3)=>(F K v1 v2 v3).bind fun (v4,v5,v6,v7)=>some (v4,v5,v6,v7)) Q→Hs B Q)
  (hF:∀ j,j≤l.length→i<j→Hs (fun K=>F K l (j:Int) 0) (QS l TT (f j))) (hE:∀ (j:Nat) e,e≠0→Ev (fun K=>F K l (j:Int) e) (v,l,(j:Int),e)):Hs B (QS l TT (bhd .nil l s f i)):=by
 refine hB _ ?_
 have b:=eN l [s] i hi
 have p:=aHL hl [s] (by simp) i
 have st:(ks l [s] i).2.2=0→i<(ks l [s] i).2.1:=fun h=>by
  rw [ks] at h ⊢
  by_cases hk:bE l (i:Int) s=true
  ·rw [if_pos hk,ks]; simp
  ·rw [if_neg hk] at h; exact absurd (show (6:Int)=0 from h) (by decide)
 unfold bhd
 generalize ks l [s] i=g at *
 obtain ⟨b1,b2⟩:=b
 refine Hs.parU p (fun h=>?_) (fun he=>?_)
 ·obtain ⟨⟨a,l',i',e'⟩,h1,h2⟩:=hF g.2.1 b2 (st h)
  exact Hs.evb h1 (Hs.pure h2)
 ·exact Hs.evb (hE _ _ he) (Hs.pure ⟨rfl,rfl,rfl,fun h=>absurd h he,trivial⟩)
theorem bGj {i:Nat} (s:List UInt8) (hi:i≤l.length):Hs (fun K=>eK K l (i:Int) 0 s) (QS l TT (bhd .nil l s (fun j=>tyR l j) i)) :=
 aSI hl hi (fun _ h=>Hs.congr h (fun k=>by rw [eK])) (fun j hj _=>bE0 hl hj) (fun j e he=>aFP l j e he)
theorem bDL {i:Nat} (s:List UInt8) (hi:i≤l.length):Hs (fun K=>eU K l (i:Int) 0 s) (QS l TT (bhd .nil l s (fun j=>exR l j) i)) :=
 aSI hl hi (fun _ h=>Hs.congr h (fun k=>by rw [eU])) (fun j hj _=>bI5 hl hj) (fun j e he=>aWp l j e he)
end
end Go.Proofs.YtjhfgiieicloeaaGreatDoor

