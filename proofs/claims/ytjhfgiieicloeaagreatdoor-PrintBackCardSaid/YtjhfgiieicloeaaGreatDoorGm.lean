/- Joined texts: M1, M2, M3a. -/
import Derived.Test.YtjhfgiieicloeaaGreatDoorGy
/- The parser of modules as plain functions of the tokens. -/
namespace Go.Proofs.YtjhfgiieicloeaaGreatDoor
open Go Go.Am Go.Sx
abbrev LT:=List Tr×Nat×Int
def lgR (l:List aF) (i:Nat):List UInt8×Nat×Int:=if (aDm l (i:Int)).2=true then ((aDm l (i:Int)).1,i+1,0) else ([],i,6)
def exR (l:List aF) (i:Nat):RT:=fG l (8 * l.length+6) i
def cnR (l:List aF) (i:Nat):LT:=aHu l (3 * l.length+3) i []
def bhd {α:Type} (d:α) (l:List aF) (s:List UInt8) (f:Nat→α×Nat×Int) (i:Nat):α×Nat×Int:=bnd d (ks l [s] i) fun _ j=>f j
def aB3 (l:List aF) (i:Nat) (t:List (List UInt8)):Bool:=t.any fun s=>bE l (i:Int) s
abbrev yI:List UInt8:=[118,97,108]
abbrev fR:List UInt8:=[116,121,112,101]
abbrev mU:List UInt8:=[100,97,116,97,116,121,112,101]
abbrev aAj:List UInt8:=[115,116,114,117,99,116,117,114,101]
abbrev aAC:List UInt8:=[105,110,99,108,117,100,101]
abbrev aA6:List UInt8:=[115,104,97,114,105,110,103]
abbrev aAY:List UInt8:=[111,112,101,110]
abbrev aJK:List UInt8:=[115,105,103,110,97,116,117,114,101]
abbrev aJJ:List UInt8:=[102,117,110,99,116,111,114]
abbrev aLC:List UInt8:=[115,116,114,117,99,116]
abbrev kSg:List UInt8:=[115,105,103]
abbrev aHd:List UInt8:=[101,110,100]
abbrev aE1:List UInt8:=[119,104,101,114,101]
mutual
def aAw (l:List aF):Nat→Nat→RT
 | 0,i=>(.nil,i,6)
 | n+1,i=>bnd .nil (aDN l n i) fun m i=>aD6 l n m i
def aD6 (l:List aF):Nat→Tr→Nat→RT
 | 0,_,i=>(.nil,i,6)
 | n+1,m,i =>
  if bE l (i:Int) [58]=true then bnd .nil (sK l n (i+1)) fun s i=>aD6 l n (.node 43 0 [] [] [m,s]) i
  else if bE l (i:Int) [58,62]=true then bnd .nil (sK l n (i+1)) fun s i=>aD6 l n (.node 43 1 [] [] [m,s]) i
  else (m,i,0)
def aDN (l:List aF):Nat→Nat→RT
 | 0,i=>(.nil,i,6)
 | n+1,i =>
  if bE l (i:Int) aLC=true then bnd .nil (yE l n false [] (i+1)) fun k i=>bnd .nil (ks l [aHd] i) fun _ i=>(.node 40 0 [] [] k,i,0)
  else if bE l (i:Int) [40]=true then bnd .nil (aAw l n (i+1)) fun m i=>bnd .nil (ks l [[41]] i) fun _ i=>(m,i,0)
  else if (qB l (i:Int)).2=true∧bE l ((i+1:Nat):Int) [40]=true then bnd .nil (aAw l n (i+2)) fun m j=>bnd .nil (ks l [[41]] j) fun _ j=>(.node 42 0 (qB l (i:Int)).1 [] [m],j,0)
  else bnd .nil (lgR l i) fun s i=>(.node 41 0 s [] [],i,0)
def sK (l:List aF):Nat→Nat→RT
 | 0,i=>(.nil,i,6)
 | n+1,i=>bnd .nil (aGi l n i) fun s i=>aGv l n s i
def aGv (l:List aF):Nat→Tr→Nat→RT
 | 0,_,i=>(.nil,i,6)
 | n+1,s,i =>
  if bE l (i:Int) aE1=true then bnd .nil (ks l [fR] (i+1)) fun _ i=>bnd .nil (lgR l i) fun g i=>bnd .nil (ks l [[61]] i) fun _ i=>bnd .nil (tyR l i) fun t i=>aGv l n (.node 52 0 g [] [s,t]) i
  else (s,i,0)
def aGi (l:List aF):Nat→Nat→RT
 | 0,i=>(.nil,i,6)
 | n+1,i =>
  if bE l (i:Int) kSg=true then bnd .nil (aDs l n [] (i+1)) fun k i=>bnd .nil (ks l [aHd] i) fun _ i=>(.node 50 0 [] [] k,i,0)
  else bnd .nil (nmR l i) fun s i=>(.node 51 0 s [] [],i,0)
def aDs (l:List aF):Nat→List Tr→Nat→LT
 | 0,_,i=>([],i,6)
 | n+1,out,i=>if aB3 l i [yI,fR,mU,aAj,aAC,aA6]=true then bnd [] (aCc l n i) fun k i=>aDs l n (out++[k]) i else (out,i,0)
def aCc (l:List aF):Nat→Nat→RT
 | 0,i=>(.nil,i,6)
 | n+1,i =>
  if bE l (i:Int) yI=true then bnd .nil (nmR l (i+1)) fun s i=>bnd .nil (bhd .nil l [58] (fun j=>tyR l j) i) fun t i=>(.node 60 0 s [] [t],i,0)
  else if bE l (i:Int) fR=true then bnd .nil (nmR l (i+1)) fun s i=>if bE l (i:Int) [61]=true then bnd .nil (tyR l (i+1)) fun t i=>(.node 61 0 s [] [t],i,0) else (.node 61 0 s [] [],i,0)
  else if bE l (i:Int) mU=true then bnd .nil (nmR l (i+1)) fun s i=>bnd .nil (ks l [[61]] i) fun _ i=>bnd .nil (cnR l i) fun k i=>(.node 62 0 s [] k,i,0)
  else if bE l (i:Int) aAj=true then bnd .nil (nmR l (i+1)) fun s i=>bnd .nil (bhd .nil l [58] (fun j=>sK l n j) i) fun g i=>(.node 63 0 s [] [g],i,0)
  else if bE l (i:Int) aAC=true then bnd .nil (sK l n (i+1)) fun g i=>(.node 64 0 [] [] [g],i,0)
  else if bE l (i:Int) aA6=true then bnd .nil (ks l [fR] (i+1)) fun _ i=>bnd .nil (lgR l i) fun a i=>bnd .nil (ks l [[61]] i) fun _ i=>bnd .nil (lgR l i) fun b i=>(.node 65 0 a b [],i,0)
  else (.nil,i,6)
def yE (l:List aF):Nat→Bool→List Tr→Nat→LT
 | 0,_,_,i=>([],i,6)
 | n+1,top,out,i=>if (aB3 l i [yI,fR,mU,aAj,aAY,aAC] || (top && aB3 l i [aJK,aJJ]))=true then bnd [] (aA1 l n top i) fun k i=>yE l n top (out++[k]) i else (out,i,0)
def aA1 (l:List aF):Nat→Bool→Nat→RT
 | 0,_,i=>(.nil,i,6)
 | n+1,top,i =>
  if bE l (i:Int) yI=true then bnd .nil (nmR l (i+1)) fun s i =>
   if bE l (i:Int) [58]=true then bnd .nil (tyR l (i+1)) fun t i=>bnd .nil (bhd .nil l [61] (fun j=>exR l j) i) fun e i=>(.node 70 0 s [] [t,e],i,0)
   else bnd .nil (bhd .nil l [61] (fun j=>exR l j) i) fun e i=>(.node 70 0 s [] [e],i,0)
  else if bE l (i:Int) fR=true then bnd .nil (nmR l (i+1)) fun s i=>bnd .nil (bhd .nil l [61] (fun j=>tyR l j) i) fun t i=>(.node 71 0 s [] [t],i,0)
  else if bE l (i:Int) mU=true then bnd .nil (nmR l (i+1)) fun s i=>bnd .nil (ks l [[61]] i) fun _ i=>bnd .nil (cnR l i) fun k i=>(.node 72 0 s [] k,i,0)
  else if bE l (i:Int) aAj=true then bnd .nil (nmR l (i+1)) fun s i=>bnd .nil (bhd .nil l [61] (fun j=>aAw l n j) i) fun m i=>(.node 73 0 s [] [m],i,0)
  else if bE l (i:Int) aAY=true then bnd .nil (lgR l (i+1)) fun s i=>(.node 76 0 s [] [],i,0)
  else if bE l (i:Int) aAC=true then bnd .nil (lgR l (i+1)) fun s i=>(.node 77 0 s [] [],i,0)
  else if top=true∧bE l (i:Int) aJK=true then bnd .nil (nmR l (i+1)) fun s i=>bnd .nil (bhd .nil l [61] (fun j=>sK l n j) i) fun g i=>(.node 74 0 s [] [g],i,0)
  else if top=true∧bE l (i:Int) aJJ=true then bnd .nil (nmR l (i+1)) fun s i=>bnd .nil (ks l [[40]] i) fun _ i=>bnd .nil (nmR l i) fun m i=>bnd .nil (bhd .nil l [58] (fun j=>sK l n j) i) fun g i=>bnd .nil (ks l [[41]] i) fun _ i=>bnd .nil (bhd .nil l [61] (fun j=>aAw l n j) i) fun d i=>(.node 75 0 s m [g,d],i,0)
  else (.nil,i,6)
end
theorem aJl {l:List aF} {i:Nat} (h:i≤l.length):Bw l i (lgR l i):=by
 unfold lgR
 by_cases hk:(aDm l (i:Int)).2=true
 ·rw [if_pos hk]
  have:=aWF hk
  exact ⟨by simp only; omega,by simp only; omega⟩
 ·rw [if_neg hk]; exact ⟨Nat.le_refl _,h⟩
theorem aJs {l:List aF} {i:Nat} (h:(lgR l i).2.2=0):(lgR l i).2.1=i+1:=by
 unfold lgR at h ⊢
 by_cases hk:(aDm l (i:Int)).2=true
 ·rw [if_pos hk]
 ·rw [if_neg hk] at h; exact absurd (show (6:Int)=0 from h) (by decide)
end Go.Proofs.YtjhfgiieicloeaaGreatDoor

/- Where the parser of modules stands: bounds of its plain functions. Printed by gen8/m2.py. -/
namespace Go.Proofs.YtjhfgiieicloeaaGreatDoor
open Go Go.Am Go.Sx
def Pr (l:List aF) (i0:Nat) (out:List Tr) (g:LT):Prop:=i0≤g.2.1∧g.2.1≤l.length∧(g.2.2=0→wL g.1+2 * i0≤wL out+2 * g.2.1)
theorem bCk {α:Type} {l:List aF} {i0:Nat} {out:List Tr} {r:α×Nat×Int} {f:α→Nat→LT} (h1:i0≤r.2.1) (h2:r.2.1≤l.length) (hf:r.2.2=0→Pr l i0 out (f r.1 r.2.1)):Pr l i0 out (bnd [] r f):=by
 unfold bnd
 by_cases h0:r.2.2=0
 ·rw [if_pos h0]; exact hf h0
 ·rw [if_neg h0]; exact ⟨h1,h2,fun h=>absurd h h0⟩
section
variable {l:List aF} (hl:l.length≤20000)
include hl
theorem bAu {i:Nat} (hi:i≤l.length):Pz l i (2 * i) (exR l i):=nP hl _ i hi
theorem bAB {i:Nat} (hi:i≤l.length):Pq l i [] 0 (cnR l i):=by
 obtain ⟨c',_,h5,h4,h3⟩:=(aWl hl (3 * l.length+3) i hi).2.2.2 (by omega) [] [] (fun s=>by simp [jN]) (by simp)
 unfold cnR
 refine ⟨h4,h3,fun h=>?_⟩
 obtain ⟨_,h6,h7⟩:=h5 h
 exact ⟨h6,by omega⟩
omit hl in
theorem aB4 {s:List UInt8} {f:Nat→RT} {i:Nat} (hi:i≤l.length) (hf:∀ j,j≤l.length→Pz l j (2 * j) (f j)):Pz l i (2 * i) (bhd .nil l s f i):=by
 have b:=eQ l [s] i hi
 unfold bhd
 generalize ks l [s] i=g at *
 obtain ⟨b1,b2⟩:=b
 refine aU b1 b2 fun _=>?_
 obtain ⟨c1,c2,c3⟩:=hf g.2.1 b2
 exact ⟨by omega,c2,fun h=>by have:=c3 h; omega⟩
theorem aZi:∀ n i,i≤l.length→Pz l i (2 * i) (aAw l n i)∧(∀ i0 lo m,i0<i→m.w+1+lo≤2 * i→Pz l i0 lo (aD6 l n m i))∧Pz l i (2 * i) (aDN l n i)∧Pz l i (2 * i) (sK l n i)∧(∀ i0 lo m,i0<i→m.w+1+lo≤2 * i→Pz l i0 lo (aGv l n m i)) ∧
  Pz l i (2 * i) (aGi l n i)∧(∀ out,Pr l i out (aDs l n out i))∧Pz l i (2 * i) (aCc l n i)∧(∀ top out,Pr l i out (yE l n top out i))∧(∀ top,Pz l i (2 * i) (aA1 l n top i)):=by
 intro n
 induction n with
 | zero =>
  intro i hi
  refine ⟨?_,fun i0 lo m h _=>?_,?_,?_,fun i0 lo m h _=>?_,?_,fun out=>?_,?_,fun top out=>?_,fun top=>?_⟩
  ·rw [aAw]; exact nE (Nat.le_refl _) hi (by decide)
  ·rw [aD6]; exact nE (by omega) hi (by decide)
  ·rw [aDN]; exact nE (Nat.le_refl _) hi (by decide)
  ·rw [sK]; exact nE (Nat.le_refl _) hi (by decide)
  ·rw [aGv]; exact nE (by omega) hi (by decide)
  ·rw [aGi]; exact nE (Nat.le_refl _) hi (by decide)
  ·rw [aDs]; exact ⟨Nat.le_refl _,hi,fun h=>absurd (show (6:Int)=0 from h) (by decide)⟩
  ·rw [aCc]; exact nE (Nat.le_refl _) hi (by decide)
  ·rw [yE]; exact ⟨Nat.le_refl _,hi,fun h=>absurd (show (6:Int)=0 from h) (by decide)⟩
  ·rw [aA1]; exact nE (Nat.le_refl _) hi (by decide)
 | succ n ih =>
  intro i hi
  have ihM:∀ j,j≤l.length→Pz l j (2 * j) (aAw l n j):=fun j h=>(ih j h).1
  have ihML:∀ j,j≤l.length→∀ i0 lo m,i0<j→m.w+1+lo≤2 * j→Pz l i0 lo (aD6 l n m j):=fun j h=>(ih j h).2.1
  have ihP:∀ j,j≤l.length→Pz l j (2 * j) (aDN l n j):=fun j h=>(ih j h).2.2.1
  have ihS:∀ j,j≤l.length→Pz l j (2 * j) (sK l n j):=fun j h=>(ih j h).2.2.2.1
  have ihSL:∀ j,j≤l.length→∀ i0 lo m,i0<j→m.w+1+lo≤2 * j→Pz l i0 lo (aGv l n m j):=fun j h=>(ih j h).2.2.2.2.1
  have ihB:∀ j,j≤l.length→Pz l j (2 * j) (aGi l n j):=fun j h=>(ih j h).2.2.2.2.2.1
  have ihSs:∀ out j,j≤l.length→Pr l j out (aDs l n out j):=fun out j h=>(ih j h).2.2.2.2.2.2.1 out
  have ihSp:∀ j,j≤l.length→Pz l j (2 * j) (aCc l n j):=fun j h=>(ih j h).2.2.2.2.2.2.2.1
  have ihDs:∀ top out j,j≤l.length→Pr l j out (yE l n top out j):=fun top out j h=>(ih j h).2.2.2.2.2.2.2.2.1 top out
  have ihD:∀ top j,j≤l.length→Pz l j (2 * j) (aA1 l n top j):=fun top j h=>(ih j h).2.2.2.2.2.2.2.2.2 top
  refine ⟨?_,fun i0 lo m ha hw=>?_,?_,?_,fun i0 lo m ha hw=>?_,?_,fun out=>?_,?_,fun top out=>?_,fun top=>?_⟩
  ·rw [aAw]
   have b:=ihP (i) (by omega)
   generalize aDN l n (i)=g1 at *
   obtain ⟨g1a,g1b,g1c⟩:=b
   refine aU (by omega) g1b fun h1=>?_
   have g1c:=g1c h1
   exact ihML g1.2.1 g1b i (2 * i) g1.1 (by omega) (by omega)
  ·rw [aD6]
   by_cases k0:bE l (i:Int) [58]=true
   ·rw [if_pos k0]
    have hin:=aX k0
    have b:=ihS (i+1) (by omega)
    generalize sK l n (i+1)=g1 at *
    obtain ⟨g1a,g1b,g1c⟩:=b
    refine aU (by omega) g1b fun h1=>?_
    have g1c:=g1c h1
    exact ihML g1.2.1 g1b i0 lo _ (by omega) (by simp only [aH,aC,aK]; omega)
   rw [if_neg k0]
   by_cases k1:bE l (i:Int) [58,62]=true
   ·rw [if_pos k1]
    have hin:=aX k1
    have b:=ihS (i+1) (by omega)
    generalize sK l n (i+1)=g1 at *
    obtain ⟨g1a,g1b,g1c⟩:=b
    refine aU (by omega) g1b fun h1=>?_
    have g1c:=g1c h1
    exact ihML g1.2.1 g1b i0 lo _ (by omega) (by simp only [aH,aC,aK]; omega)
   rw [if_neg k1]
   exact ⟨by simp only; omega,hi,fun _=>⟨by simp only; omega,hw⟩⟩
  ·rw [aDN]
   by_cases k0:bE l (i:Int) aLC=true
   ·rw [if_pos k0]
    have hin:=aX k0
    have b:=ihDs false [] (i+1) (by omega)
    generalize yE l n false [] (i+1)=g1 at *
    obtain ⟨g1a,g1b,g1c⟩:=b
    refine aU (by omega) g1b fun h1=>?_
    have g1c:=g1c h1
    rw [aK] at g1c
    have b:=eQ l [aHd] (g1.2.1) (by omega)
    generalize ks l [aHd] (g1.2.1)=g2 at *
    obtain ⟨g2a,g2b⟩:=b
    refine aU (by omega) g2b fun h2=>?_
    exact ⟨by simp only; omega,by simp only; omega,fun _=>⟨by simp only; omega,by simp only [aH,aC,aK]; omega⟩⟩
   rw [if_neg k0]
   by_cases k1:bE l (i:Int) [40]=true
   ·rw [if_pos k1]
    have hin:=aX k1
    have b:=ihM (i+1) (by omega)
    generalize aAw l n (i+1)=g1 at *
    obtain ⟨g1a,g1b,g1c⟩:=b
    refine aU (by omega) g1b fun h1=>?_
    have g1c:=g1c h1
    have b:=eQ l [[41]] (g1.2.1) (by omega)
    generalize ks l [[41]] (g1.2.1)=g2 at *
    obtain ⟨g2a,g2b⟩:=b
    refine aU (by omega) g2b fun h2=>?_
    exact ⟨by simp only; omega,by simp only; omega,fun _=>⟨by simp only; omega,by simp only; omega⟩⟩
   rw [if_neg k1]
   by_cases k2:(qB l (i:Int)).2=true∧bE l ((i+1:Nat):Int) [40]=true
   ·rw [if_pos k2]
    have hin:=aX k2.2
    have b:=ihM (i+2) (by omega)
    generalize aAw l n (i+2)=g1 at *
    obtain ⟨g1a,g1b,g1c⟩:=b
    refine aU (by omega) g1b fun h1=>?_
    have g1c:=g1c h1
    have b:=eQ l [[41]] (g1.2.1) (by omega)
    generalize ks l [[41]] (g1.2.1)=g2 at *
    obtain ⟨g2a,g2b⟩:=b
    refine aU (by omega) g2b fun h2=>?_
    exact ⟨by simp only; omega,by simp only; omega,fun _=>⟨by simp only; omega,by simp only [aH,aC,aK]; omega⟩⟩
   rw [if_neg k2]
   have b:=aJl (l:=l) (i:=i) (by omega)
   have sN:=aJs (l:=l) (i:=i)
   generalize lgR l (i)=g1 at *
   obtain ⟨g1a,g1b⟩:=b
   refine aU (by omega) g1b fun h1=>?_
   have s1:=sN h1
   exact ⟨by simp only; omega,by simp only; omega,fun _=>⟨by simp only; omega,by simp only [aH,aC,aK]; omega⟩⟩
  ·rw [sK]
   have b:=ihB (i) (by omega)
   generalize aGi l n (i)=g1 at *
   obtain ⟨g1a,g1b,g1c⟩:=b
   refine aU (by omega) g1b fun h1=>?_
   have g1c:=g1c h1
   exact ihSL g1.2.1 g1b i (2 * i) g1.1 (by omega) (by omega)
  ·rw [aGv]
   by_cases k0:bE l (i:Int) aE1=true
   ·rw [if_pos k0]
    have hin:=aX k0
    have b:=eQ l [fR] (i+1) (by omega)
    generalize ks l [fR] (i+1)=g1 at *
    obtain ⟨g1a,g1b⟩:=b
    refine aU (by omega) g1b fun h1=>?_
    have b:=aJl (l:=l) (i:=g1.2.1) (by omega)
    have sN:=aJs (l:=l) (i:=g1.2.1)
    generalize lgR l (g1.2.1)=g2 at *
    obtain ⟨g2a,g2b⟩:=b
    refine aU (by omega) g2b fun h2=>?_
    have s2:=sN h2
    have b:=eQ l [[61]] (g2.2.1) (by omega)
    generalize ks l [[61]] (g2.2.1)=g3 at *
    obtain ⟨g3a,g3b⟩:=b
    refine aU (by omega) g3b fun h3=>?_
    have b:=aGs hl (i:=g3.2.1) (by omega)
    generalize tyR l (g3.2.1)=g4 at *
    obtain ⟨g4a,g4b,g4c⟩:=b
    refine aU (by omega) g4b fun h4=>?_
    have g4c:=g4c h4
    exact ihSL g4.2.1 g4b i0 lo _ (by omega) (by simp only [aH,aC,aK]; omega)
   rw [if_neg k0]
   exact ⟨by simp only; omega,hi,fun _=>⟨by simp only; omega,hw⟩⟩
  ·rw [aGi]
   by_cases k0:bE l (i:Int) kSg=true
   ·rw [if_pos k0]
    have hin:=aX k0
    have b:=ihSs [] (i+1) (by omega)
    generalize aDs l n [] (i+1)=g1 at *
    obtain ⟨g1a,g1b,g1c⟩:=b
    refine aU (by omega) g1b fun h1=>?_
    have g1c:=g1c h1
    rw [aK] at g1c
    have b:=eQ l [aHd] (g1.2.1) (by omega)
    generalize ks l [aHd] (g1.2.1)=g2 at *
    obtain ⟨g2a,g2b⟩:=b
    refine aU (by omega) g2b fun h2=>?_
    exact ⟨by simp only; omega,by simp only; omega,fun _=>⟨by simp only; omega,by simp only [aH,aC,aK]; omega⟩⟩
   rw [if_neg k0]
   have b:=oZ (l:=l) (i:=i) (by omega)
   have sN:=rM (l:=l) (i:=i)
   generalize nmR l (i)=g1 at *
   obtain ⟨g1a,g1b⟩:=b
   refine aU (by omega) g1b fun h1=>?_
   have s1:=sN h1
   exact ⟨by simp only; omega,by simp only; omega,fun _=>⟨by simp only; omega,by simp only [aH,aC,aK]; omega⟩⟩
  ·rw [aDs]
   by_cases k0:aB3 l i [yI,fR,mU,aAj,aAC,aA6]=true
   ·rw [if_pos k0]
    have b:=ihSp i (by omega)
    generalize aCc l n i=g1 at *
    obtain ⟨g1a,g1b,g1c⟩:=b
    refine bCk (by omega) g1b fun h1=>?_
    have g1c:=g1c h1
    have b:=ihSs (out++[g1.1]) g1.2.1 g1b
    obtain ⟨q1,q2,q3⟩:=b
    refine ⟨by omega,q2,fun h=>?_⟩
    have:=q3 h
    rw [aHG,aC,aK] at this
    omega
   rw [if_neg k0]
   exact ⟨by simp only; omega,hi,fun _=>by simp only; omega⟩
  ·rw [aCc]
   by_cases k0:bE l (i:Int) yI=true
   ·rw [if_pos k0]
    have hin:=aX k0
    have b:=oZ (l:=l) (i:=i+1) (by omega)
    have sN:=rM (l:=l) (i:=i+1)
    generalize nmR l (i+1)=g1 at *
    obtain ⟨g1a,g1b⟩:=b
    refine aU (by omega) g1b fun h1=>?_
    have s1:=sN h1
    have b:=aB4 (s:=[58]) (f:=fun j=>tyR l j) (i:=g1.2.1) (by omega) (fun j hj=>aGs hl hj)
    generalize bhd .nil l [58] (fun j=>tyR l j) (g1.2.1)=g2 at *
    obtain ⟨g2a,g2b,g2c⟩:=b
    refine aU (by omega) g2b fun h2=>?_
    have g2c:=g2c h2
    exact ⟨by simp only; omega,by simp only; omega,fun _=>⟨by simp only; omega,by simp only [aH,aC,aK]; omega⟩⟩
   rw [if_neg k0]
   by_cases k1:bE l (i:Int) fR=true
   ·rw [if_pos k1]
    have hin:=aX k1
    have b:=oZ (l:=l) (i:=i+1) (by omega)
    have sN:=rM (l:=l) (i:=i+1)
    generalize nmR l (i+1)=g1 at *
    obtain ⟨g1a,g1b⟩:=b
    refine aU (by omega) g1b fun h1=>?_
    have s1:=sN h1
    by_cases j1:bE l (g1.2.1:Int) [61]=true
    ·rw [if_pos j1]
     have hin2:=aX j1
     have b:=aGs hl (i:=g1.2.1+1) (by omega)
     generalize tyR l (g1.2.1+1)=g2 at *
     obtain ⟨g2a,g2b,g2c⟩:=b
     refine aU (by omega) g2b fun h2=>?_
     have g2c:=g2c h2
     exact ⟨by simp only; omega,by simp only; omega,fun _=>⟨by simp only; omega,by simp only [aH,aC,aK]; omega⟩⟩
    rw [if_neg j1]
    exact ⟨by simp only; omega,by simp only; omega,fun _=>⟨by simp only; omega,by simp only [aH,aC,aK]; omega⟩⟩
   rw [if_neg k1]
   by_cases k2:bE l (i:Int) mU=true
   ·rw [if_pos k2]
    have hin:=aX k2
    have b:=oZ (l:=l) (i:=i+1) (by omega)
    have sN:=rM (l:=l) (i:=i+1)
    generalize nmR l (i+1)=g1 at *
    obtain ⟨g1a,g1b⟩:=b
    refine aU (by omega) g1b fun h1=>?_
    have s1:=sN h1
    have b:=eQ l [[61]] (g1.2.1) (by omega)
    generalize ks l [[61]] (g1.2.1)=g2 at *
    obtain ⟨g2a,g2b⟩:=b
    refine aU (by omega) g2b fun h2=>?_
    have b:=bAB hl (i:=g2.2.1) (by omega)
    generalize cnR l (g2.2.1)=g3 at *
    obtain ⟨g3a,g3b,g3c⟩:=b
    refine aU (by omega) g3b fun h3=>?_
    have g3c:=g3c h3
    rw [aK] at g3c
    exact ⟨by simp only; omega,by simp only; omega,fun _=>⟨by simp only; omega,by simp only [aH,aC,aK]; omega⟩⟩
   rw [if_neg k2]
   by_cases k3:bE l (i:Int) aAj=true
   ·rw [if_pos k3]
    have hin:=aX k3
    have b:=oZ (l:=l) (i:=i+1) (by omega)
    have sN:=rM (l:=l) (i:=i+1)
    generalize nmR l (i+1)=g1 at *
    obtain ⟨g1a,g1b⟩:=b
    refine aU (by omega) g1b fun h1=>?_
    have s1:=sN h1
    have b:=aB4 (s:=[58]) (f:=fun j=>sK l n j) (i:=g1.2.1) (by omega) (fun j hj=>ihS j hj)
    generalize bhd .nil l [58] (fun j=>sK l n j) (g1.2.1)=g2 at *
    obtain ⟨g2a,g2b,g2c⟩:=b
    refine aU (by omega) g2b fun h2=>?_
    have g2c:=g2c h2
    exact ⟨by simp only; omega,by simp only; omega,fun _=>⟨by simp only; omega,by simp only [aH,aC,aK]; omega⟩⟩
   rw [if_neg k3]
   by_cases k4:bE l (i:Int) aAC=true
   ·rw [if_pos k4]
    have hin:=aX k4
    have b:=ihS (i+1) (by omega)
    generalize sK l n (i+1)=g1 at *
    obtain ⟨g1a,g1b,g1c⟩:=b
    refine aU (by omega) g1b fun h1=>?_
    have g1c:=g1c h1
    exact ⟨by simp only; omega,by simp only; omega,fun _=>⟨by simp only; omega,by simp only [aH,aC,aK]; omega⟩⟩
   rw [if_neg k4]
   by_cases k5:bE l (i:Int) aA6=true
   ·rw [if_pos k5]
    have hin:=aX k5
    have b:=eQ l [fR] (i+1) (by omega)
    generalize ks l [fR] (i+1)=g1 at *
    obtain ⟨g1a,g1b⟩:=b
    refine aU (by omega) g1b fun h1=>?_
    have b:=aJl (l:=l) (i:=g1.2.1) (by omega)
    have sN:=aJs (l:=l) (i:=g1.2.1)
    generalize lgR l (g1.2.1)=g2 at *
    obtain ⟨g2a,g2b⟩:=b
    refine aU (by omega) g2b fun h2=>?_
    have s2:=sN h2
    have b:=eQ l [[61]] (g2.2.1) (by omega)
    generalize ks l [[61]] (g2.2.1)=g3 at *
    obtain ⟨g3a,g3b⟩:=b
    refine aU (by omega) g3b fun h3=>?_
    have b:=aJl (l:=l) (i:=g3.2.1) (by omega)
    have sN:=aJs (l:=l) (i:=g3.2.1)
    generalize lgR l (g3.2.1)=g4 at *
    obtain ⟨g4a,g4b⟩:=b
    refine aU (by omega) g4b fun h4=>?_
    have s4:=sN h4
    exact ⟨by simp only; omega,by simp only; omega,fun _=>⟨by simp only; omega,by simp only [aH,aC,aK]; omega⟩⟩
   rw [if_neg k5]
   exact nE (Nat.le_refl _) hi (by decide)
  ·rw [yE]
   by_cases k0:(aB3 l i [yI,fR,mU,aAj,aAY,aAC] || (top && aB3 l i [aJK,aJJ]))=true
   ·rw [if_pos k0]
    have b:=ihD top i (by omega)
    generalize aA1 l n top i=g1 at *
    obtain ⟨g1a,g1b,g1c⟩:=b
    refine bCk (by omega) g1b fun h1=>?_
    have g1c:=g1c h1
    have b:=ihDs top (out++[g1.1]) g1.2.1 g1b
    obtain ⟨q1,q2,q3⟩:=b
    refine ⟨by omega,q2,fun h=>?_⟩
    have:=q3 h
    rw [aHG,aC,aK] at this
    omega
   rw [if_neg k0]
   exact ⟨by simp only; omega,hi,fun _=>by simp only; omega⟩
  ·rw [aA1]
   by_cases k0:bE l (i:Int) yI=true
   ·rw [if_pos k0]
    have hin:=aX k0
    have b:=oZ (l:=l) (i:=i+1) (by omega)
    have sN:=rM (l:=l) (i:=i+1)
    generalize nmR l (i+1)=g1 at *
    obtain ⟨g1a,g1b⟩:=b
    refine aU (by omega) g1b fun h1=>?_
    have s1:=sN h1
    by_cases j0:bE l (g1.2.1:Int) [58]=true
    ·rw [if_pos j0]
     have hin2:=aX j0
     have b:=aGs hl (i:=g1.2.1+1) (by omega)
     generalize tyR l (g1.2.1+1)=g2 at *
     obtain ⟨g2a,g2b,g2c⟩:=b
     refine aU (by omega) g2b fun h2=>?_
     have g2c:=g2c h2
     have b:=aB4 (s:=[61]) (f:=fun j=>exR l j) (i:=g2.2.1) (by omega) (fun j hj=>bAu hl hj)
     generalize bhd .nil l [61] (fun j=>exR l j) (g2.2.1)=g3 at *
     obtain ⟨g3a,g3b,g3c⟩:=b
     refine aU (by omega) g3b fun h3=>?_
     have g3c:=g3c h3
     exact ⟨by simp only; omega,by simp only; omega,fun _=>⟨by simp only; omega,by simp only [aH,aC,aK]; omega⟩⟩
    rw [if_neg j0]
    have b:=aB4 (s:=[61]) (f:=fun j=>exR l j) (i:=g1.2.1) (by omega) (fun j hj=>bAu hl hj)
    generalize bhd .nil l [61] (fun j=>exR l j) (g1.2.1)=g2 at *
    obtain ⟨g2a,g2b,g2c⟩:=b
    refine aU (by omega) g2b fun h2=>?_
    have g2c:=g2c h2
    exact ⟨by simp only; omega,by simp only; omega,fun _=>⟨by simp only; omega,by simp only [aH,aC,aK]; omega⟩⟩
   rw [if_neg k0]
   by_cases k1:bE l (i:Int) fR=true
   ·rw [if_pos k1]
    have hin:=aX k1
    have b:=oZ (l:=l) (i:=i+1) (by omega)
    have sN:=rM (l:=l) (i:=i+1)
    generalize nmR l (i+1)=g1 at *
    obtain ⟨g1a,g1b⟩:=b
    refine aU (by omega) g1b fun h1=>?_
    have s1:=sN h1
    have b:=aB4 (s:=[61]) (f:=fun j=>tyR l j) (i:=g1.2.1) (by omega) (fun j hj=>aGs hl hj)
    generalize bhd .nil l [61] (fun j=>tyR l j) (g1.2.1)=g2 at *
    obtain ⟨g2a,g2b,g2c⟩:=b
    refine aU (by omega) g2b fun h2=>?_
    have g2c:=g2c h2
    exact ⟨by simp only; omega,by simp only; omega,fun _=>⟨by simp only; omega,by simp only [aH,aC,aK]; omega⟩⟩
   rw [if_neg k1]
   by_cases k2:bE l (i:Int) mU=true
   ·rw [if_pos k2]
    have hin:=aX k2
    have b:=oZ (l:=l) (i:=i+1) (by omega)
    have sN:=rM (l:=l) (i:=i+1)
    generalize nmR l (i+1)=g1 at *
    obtain ⟨g1a,g1b⟩:=b
    refine aU (by omega) g1b fun h1=>?_
    have s1:=sN h1
    have b:=eQ l [[61]] (g1.2.1) (by omega)
    generalize ks l [[61]] (g1.2.1)=g2 at *
    obtain ⟨g2a,g2b⟩:=b
    refine aU (by omega) g2b fun h2=>?_
    have b:=bAB hl (i:=g2.2.1) (by omega)
    generalize cnR l (g2.2.1)=g3 at *
    obtain ⟨g3a,g3b,g3c⟩:=b
    refine aU (by omega) g3b fun h3=>?_
    have g3c:=g3c h3
    rw [aK] at g3c
    exact ⟨by simp only; omega,by simp only; omega,fun _=>⟨by simp only; omega,by simp only [aH,aC,aK]; omega⟩⟩
   rw [if_neg k2]
   by_cases k3:bE l (i:Int) aAj=true
   ·rw [if_pos k3]
    have hin:=aX k3
    have b:=oZ (l:=l) (i:=i+1) (by omega)
    have sN:=rM (l:=l) (i:=i+1)
    generalize nmR l (i+1)=g1 at *
    obtain ⟨g1a,g1b⟩:=b
    refine aU (by omega) g1b fun h1=>?_
    have s1:=sN h1
    have b:=aB4 (s:=[61]) (f:=fun j=>aAw l n j) (i:=g1.2.1) (by omega) (fun j hj=>ihM j hj)
    generalize bhd .nil l [61] (fun j=>aAw l n j) (g1.2.1)=g2 at *
    obtain ⟨g2a,g2b,g2c⟩:=b
    refine aU (by omega) g2b fun h2=>?_
    have g2c:=g2c h2
    exact ⟨by simp only; omega,by simp only; omega,fun _=>⟨by simp only; omega,by simp only [aH,aC,aK]; omega⟩⟩
   rw [if_neg k3]
   by_cases k4:bE l (i:Int) aAY=true
   ·rw [if_pos k4]
    have hin:=aX k4
    have b:=aJl (l:=l) (i:=i+1) (by omega)
    have sN:=aJs (l:=l) (i:=i+1)
    generalize lgR l (i+1)=g1 at *
    obtain ⟨g1a,g1b⟩:=b
    refine aU (by omega) g1b fun h1=>?_
    have s1:=sN h1
    exact ⟨by simp only; omega,by simp only; omega,fun _=>⟨by simp only; omega,by simp only [aH,aC,aK]; omega⟩⟩
   rw [if_neg k4]
   by_cases k5:bE l (i:Int) aAC=true
   ·rw [if_pos k5]
    have hin:=aX k5
    have b:=aJl (l:=l) (i:=i+1) (by omega)
    have sN:=aJs (l:=l) (i:=i+1)
    generalize lgR l (i+1)=g1 at *
    obtain ⟨g1a,g1b⟩:=b
    refine aU (by omega) g1b fun h1=>?_
    have s1:=sN h1
    exact ⟨by simp only; omega,by simp only; omega,fun _=>⟨by simp only; omega,by simp only [aH,aC,aK]; omega⟩⟩
   rw [if_neg k5]
   by_cases k6:top=true∧bE l (i:Int) aJK=true
   ·rw [if_pos k6]
    have hin:=aX k6.2
    have b:=oZ (l:=l) (i:=i+1) (by omega)
    have sN:=rM (l:=l) (i:=i+1)
    generalize nmR l (i+1)=g1 at *
    obtain ⟨g1a,g1b⟩:=b
    refine aU (by omega) g1b fun h1=>?_
    have s1:=sN h1
    have b:=aB4 (s:=[61]) (f:=fun j=>sK l n j) (i:=g1.2.1) (by omega) (fun j hj=>ihS j hj)
    generalize bhd .nil l [61] (fun j=>sK l n j) (g1.2.1)=g2 at *
    obtain ⟨g2a,g2b,g2c⟩:=b
    refine aU (by omega) g2b fun h2=>?_
    have g2c:=g2c h2
    exact ⟨by simp only; omega,by simp only; omega,fun _=>⟨by simp only; omega,by simp only [aH,aC,aK]; omega⟩⟩
   rw [if_neg k6]
   by_cases k7:top=true∧bE l (i:Int) aJJ=true
   ·rw [if_pos k7]
    have hin:=aX k7.2
    have b:=oZ (l:=l) (i:=i+1) (by omega)
    have sN:=rM (l:=l) (i:=i+1)
    generalize nmR l (i+1)=g1 at *
    obtain ⟨g1a,g1b⟩:=b
    refine aU (by omega) g1b fun h1=>?_
    have s1:=sN h1
    have b:=eQ l [[40]] (g1.2.1) (by omega)
    generalize ks l [[40]] (g1.2.1)=g2 at *
    obtain ⟨g2a,g2b⟩:=b
    refine aU (by omega) g2b fun h2=>?_
    have b:=oZ (l:=l) (i:=g2.2.1) (by omega)
    have sN:=rM (l:=l) (i:=g2.2.1)
    generalize nmR l (g2.2.1)=g3 at *
    obtain ⟨g3a,g3b⟩:=b
    refine aU (by omega) g3b fun h3=>?_
    have s3:=sN h3
    have b:=aB4 (s:=[58]) (f:=fun j=>sK l n j) (i:=g3.2.1) (by omega) (fun j hj=>ihS j hj)
    generalize bhd .nil l [58] (fun j=>sK l n j) (g3.2.1)=g4 at *
    obtain ⟨g4a,g4b,g4c⟩:=b
    refine aU (by omega) g4b fun h4=>?_
    have g4c:=g4c h4
    have b:=eQ l [[41]] (g4.2.1) (by omega)
    generalize ks l [[41]] (g4.2.1)=g5 at *
    obtain ⟨g5a,g5b⟩:=b
    refine aU (by omega) g5b fun h5=>?_
    have b:=aB4 (s:=[61]) (f:=fun j=>aAw l n j) (i:=g5.2.1) (by omega) (fun j hj=>ihM j hj)
    generalize bhd .nil l [61] (fun j=>aAw l n j) (g5.2.1)=g6 at *
    obtain ⟨g6a,g6b,g6c⟩:=b
    refine aU (by omega) g6b fun h6=>?_
    have g6c:=g6c h6
    exact ⟨by simp only; omega,by simp only; omega,fun _=>⟨by simp only; omega,by simp only [aH,aC,aK]; omega⟩⟩
   rw [if_neg k7]
   exact nE (Nat.le_refl _) hi (by decide)
end
end Go.Proofs.YtjhfgiieicloeaaGreatDoor

/- The parser of modules: keys, names, parts of other layers, what it does behind an error. -/
namespace Go.Proofs.YtjhfgiieicloeaaGreatDoor
open Go Go.Am Go.Sx
theorem iT (c:Int) (s:List UInt8) (ks:List Tr):Ev (fun K=>gG K c s ks) (.node c 0 s [] ks):=⟨0,fun _ _=>rfl⟩
theorem aI7 (c:Int) (s:List UInt8):Ev (fun K=>qW K c s) (c,0,s,[]):=⟨0,fun _ _=>rfl⟩
/-! ### behind an error -/
section
variable (l:List aF) (i e:Int) (he:e≠0)
include he
theorem lO (t:List UInt8):Ev (fun K=>aQ K l i e t) (false,l,i,e) :=
 Ev.congr (f:=fun K=>_) (Ev.nT he Ev.pure) (fun k=>by rw [aQ])
theorem aP7 (c:Int):Ev (fun K=>dM K l i e c) (l,i,e) :=
 Ev.congr (f:=fun K=>_) (Ev.dF he Ev.pure) (fun k=>by rw [dM])
theorem aTL (t:List (List UInt8)) (ht:t.length≤1000):∀ (m j:Nat),t.length=j+m→Ev (fun K=>dA K t (j:Int) l i e) (l,i,e):=by
 intro m
 induction m with
 | zero =>
  intro j hj
  exact Ev.step (fun k=>by rw [dA]) (Ev.dF (by omega) Ev.pure)
 | succ m ih =>
  intro j hj
  refine Ev.step (fun k=>by rw [dA]) ?_
  refine Ev.dT (by omega) ?_
  refine Ev.opt (dL (by omega)) ?_
  refine Ev.bind (lO l i e he _) ?_
  refine Ev.isT rfl ?_
  refine Ev.bind (aP7 l i e he _) ?_
  rw [bZ (by omega)]
  exact ih (j+1) (by omega)
theorem jQ (t:List (List UInt8)) (ht:t.length≤1000):Ev (fun K=>bC K l i e t) (l,i,e):=by
 refine Ev.congr (f:=fun K=>_) ?_ (fun k=>by rw [bC])
 exact aTL l i e he t ht t.length 0 (by omega)
theorem bBA:Ev (fun K=>gZ K l i e) ([],l,i,e):=by
 refine Ev.congr (f:=fun K=>_) ?_ (fun k=>by rw [gZ])
 refine Ev.bind (aDe l i) ?_
 refine Ev.nT he ?_
 exact Ev.bind (aP7 l i e he 6) Ev.pure
theorem aZt:Ev (fun K=>hP K l i e) ([],l,i,e):=by
 refine Ev.congr (f:=fun K=>_) ?_ (fun k=>by rw [hP])
 refine Ev.bind (aK6 l i) ?_
 refine Ev.nT he ?_
 exact Ev.bind (aP7 l i e he 6) Ev.pure
theorem aPR:Ev (fun K=>bO K l i e) ([],l,i,e) :=
 Ev.congr (f:=fun K=>_) (Ev.bind (bBA l i e he) Ev.pure) (fun k=>by rw [bO])
theorem aCE:Ev (fun K=>cY K l i e) ([],l,i,e) :=
 Ev.congr (f:=fun K=>_) (Ev.bind (aZt l i e he) Ev.pure) (fun k=>by rw [cY])
theorem aZw:Ev (fun K=>gY K l i e) (.nil,l,i,e) :=
 Ev.congr (f:=fun K=>_) (Ev.nT he Ev.pure) (fun k=>by rw [gY])
theorem aZa:Ev (fun K=>gV K l i e) (.nil,l,i,e) :=
 Ev.congr (f:=fun K=>_) (Ev.nT he Ev.pure) (fun k=>by rw [gV])
theorem aFJ:Ev (fun K=>iP K l i e) (.nil,l,i,e) :=
 Ev.congr (f:=fun K=>_) (Ev.bind (aZw l i e he) Ev.pure) (fun k=>by rw [iP])
theorem aVC:Ev (fun K=>lZ K l i e) (.nil,l,i,e) :=
 Ev.congr (f:=fun K=>_) (Ev.bind (aZa l i e he) Ev.pure) (fun k=>by rw [lZ])
theorem aLq:Ev (fun K=>kG K l i e) ([],l,i,e) :=
 Ev.congr (f:=fun K=>_) (Ev.nT he Ev.pure) (fun k=>by rw [kG])
theorem aVO (s:List UInt8):Ev (fun K=>eO K l i e s) (.nil,l,i,e) :=
 Ev.congr (f:=fun K=>_) (Ev.bind (jQ l i e he [s] (by simp)) (Ev.bind (aFJ l i e he) Ev.pure)) (fun k=>by rw [eO])
theorem aSE (s:List UInt8):Ev (fun K=>eY K l i e s) (.nil,l,i,e) :=
 Ev.congr (f:=fun K=>_) (Ev.bind (jQ l i e he [s] (by simp)) (Ev.bind (aVC l i e he) Ev.pure)) (fun k=>by rw [eY])
theorem bBB:Ev (fun K=>eL K l i e) (.nil,l,i,e):=by
 refine Ev.step (fun k=>by rw [eL]) ?_
 repeat' first | refine Ev.bind (lO l i e he _) ?_ | refine Ev.isF rfl ?_
 exact Ev.pure
theorem bBp:Ev (fun K=>gC K l i e) (.node 51 0 [] [] [],l,i,e):=by
 refine Ev.step (fun k=>by rw [gC]) ?_
 refine Ev.bind (lO l i e he _) ?_
 refine Ev.isT rfl ?_
 refine Ev.bind (aPR l i e he) ?_
 exact Ev.bind (aI7 ..) Ev.pure
theorem aEt (t:Tr):Ev (fun K=>dS K t l i e) (t,l,i,e):=by
 refine Ev.step (fun k=>by rw [dS]) ?_
 refine Ev.bind (lO l i e he _) ?_
 exact Ev.isF rfl Ev.pure
theorem aYW:Ev (fun K=>dB K l i e) (.node 51 0 [] [] [],l,i,e):=by
 refine Ev.step (fun k=>by rw [dB]) ?_
 exact Ev.bind (bBp l i e he) (aEt l i e he _)
theorem aHW (s:List UInt8):Ev (fun K=>dD K l i e s) (.node 51 0 [] [] [],l,i,e):=by
 refine Ev.step (fun k=>by rw [dD]) ?_
 exact Ev.bind (jQ l i e he [s] (by simp)) (Ev.bind (aYW l i e he) Ev.pure)
theorem bBR:Ev (fun K=>gA K l i e) (.node 41 0 [] [] [],l,i,e):=by
 refine Ev.step (fun k=>by rw [gA]) ?_
 refine Ev.bind (lO l i e he _) ?_
 refine Ev.isF rfl ?_
 refine Ev.bind (lO l i e he _) ?_
 refine Ev.isF rfl ?_
 have pn:=aDe l i
 generalize qB l i=N at *
 obtain ⟨s,b⟩:=N
 refine Ev.bind pn ?_
 refine Ev.is (fun _=>?_) (fun _=>?_)
 ·refine Ev.bind (aCV l _ _) ?_
  refine Ev.is (fun _=>?_) (fun _=>?_)
  ·refine Ev.dF he ?_
   refine Ev.bind (aCE l i e he) ?_
   exact Ev.bind (iT ..) Ev.pure
  ·refine Ev.bind (aCE l i e he) ?_
   exact Ev.bind (iT ..) Ev.pure
 ·refine Ev.bind (aCE l i e he) ?_
  exact Ev.bind (iT ..) Ev.pure
theorem aLn (t:Tr):Ev (fun K=>cX K t l i e) (t,l,i,e):=by
 refine Ev.step (fun k=>by rw [cX]) ?_
 refine Ev.bind (lO l i e he _) ?_
 refine Ev.isF rfl ?_
 refine Ev.bind (lO l i e he _) ?_
 exact Ev.isF rfl Ev.pure
theorem aYF:Ev (fun K=>eA K l i e) (.node 41 0 [] [] [],l,i,e):=by
 refine Ev.step (fun k=>by rw [eA]) ?_
 exact Ev.bind (bBR l i e he) (aLn l i e he _)
theorem aEr (s:List UInt8):Ev (fun K=>dV K l i e s) (.node 41 0 [] [] [],l,i,e):=by
 refine Ev.step (fun k=>by rw [dV]) ?_
 exact Ev.bind (jQ l i e he [s] (by simp)) (Ev.bind (aYF l i e he) Ev.pure)
theorem bBe (top:Bool):Ev (fun K=>dY K l i e top) (.nil,l,i,e):=by
 refine Ev.step (fun k=>by rw [dY]) ?_
 refine Ev.bind (lO l i e he _) (Ev.isF rfl ?_)
 refine Ev.bind (lO l i e he _) (Ev.isF rfl ?_)
 refine Ev.bind (lO l i e he _) (Ev.isF rfl ?_)
 refine Ev.bind (lO l i e he _) (Ev.isF rfl ?_)
 refine Ev.bind (lO l i e he _) (Ev.isF rfl ?_)
 refine Ev.bind (lO l i e he _) (Ev.isF rfl ?_)
 cases top with
 | false=>exact Ev.isF rfl Ev.pure
 | true =>
  refine Ev.isT rfl ?_
  refine Ev.bind (lO l i e he _) (Ev.isF rfl ?_)
  refine Ev.bind (lO l i e he _) (Ev.isF rfl ?_)
  exact Ev.pure
end
/-! ### no error yet -/
theorem gX {l:List aF} {i:Int} {t:List UInt8} (h:bE l i t=false):Ev (fun K=>aQ K l i 0 t) (false,l,i,0):=by
 refine Ev.congr (f:=fun K=>_) ?_ (fun k=>by rw [aQ])
 refine Ev.nF rfl ?_
 refine Ev.bind (aCV l i t) ?_
 exact Ev.isT (by rw [h]; rfl) Ev.pure
theorem aQh (l:List aF) (i c:Int):Ev (fun K=>dM K l i 0 c) (l,i,c) :=
 Ev.congr (f:=fun K=>_) (Ev.dT rfl Ev.pure) (fun k=>by rw [dM])
section
variable {l:List aF} (hl:l.length≤20000)
include hl
theorem pP {i:Nat} {t:List UInt8} (h:bE l (i:Int) t=true):Ev (fun K=>aQ K l (i:Int) 0 t) (true,l,((i+1:Nat):Int),0):=by
 have hin:=aX h
 refine Ev.congr (f:=fun K=>_) ?_ (fun k=>by rw [aQ])
 refine Ev.nF rfl ?_
 refine Ev.bind (aCV l i t) ?_
 exact Ev.isF (by rw [h]; rfl) (Ev.pure' (by rw [wr1 (by omega)]))
theorem bIj (t:List (List UInt8)) (ht:t.length≤1000):∀ (m j i:Nat),t.length=j+m→Ev (fun K=>dA K t (j:Int) l (i:Int) 0) (l,(((ks l (t.drop j) i).2.1:Nat):Int),(ks l (t.drop j) i).2.2):=by
 intro m
 induction m with
 | zero =>
  intro j i hj
  rw [List.drop_of_length_le (by omega),ks]
  exact Ev.step (fun k=>by rw [dA]) (Ev.dF (by omega) Ev.pure)
 | succ m ih =>
  intro j i hj
  have hlt:j<t.length:=by omega
  rw [iL hlt,ks]
  refine Ev.step (fun k=>by rw [dA]) ?_
  refine Ev.dT (by omega) ?_
  refine Ev.opt (dL hlt) ?_
  by_cases hk:bE l (i:Int) t[j]=true
  ·rw [if_pos hk]
   refine Ev.bind (pP hl hk) ?_
   refine Ev.isF rfl ?_
   rw [bZ (by omega)]
   exact ih (j+1) (i+1) (by omega)
  ·rw [if_neg hk]
   refine Ev.bind (gX (by simpa using hk)) ?_
   refine Ev.isT rfl ?_
   refine Ev.bind (aQh l i 6) ?_
   rw [bZ (by omega)]
   exact aTL l i 6 (by decide) t ht m (j+1) (by omega)
theorem aHL (t:List (List UInt8)) (ht:t.length≤1000) (i:Nat):Ev (fun K=>bC K l (i:Int) 0 t) (l,(((ks l t i).2.1:Nat):Int),(ks l t i).2.2):=by
 refine Ev.congr (f:=fun K=>_) ?_ (fun k=>by rw [bC])
 exact bIj hl t ht t.length 0 i (by omega)
theorem aI4 (i:Nat):Hs (fun K=>bO K l (i:Int) 0) (QS l (fun _=>True) (nmR l i)):=by
 suffices h:Hs (fun K=>gZ K l (i:Int) 0) (QS l (fun _=>True) (nmR l i)) by
  obtain ⟨⟨a,l',i',e'⟩,h1,h2⟩:=h
  exact Hs.congr (f:=fun K=>_) (Hs.evb h1 (Hs.pure h2)) (fun k=>by rw [bO])
 refine Hs.congr (f:=fun K=>_) ?_ (fun k=>by rw [gZ])
 have p:=aDe l i
 unfold nmR
 have hin:=aLm (l:=l) (i:=(i:Int))
 generalize qB l (i:Int)=N at *
 obtain ⟨s,b⟩:=N
 refine Hs.evb p ?_
 refine Hs.n (fun h=>absurd rfl h) (fun _=>?_)
 cases b with
 | false =>
  refine Hs.isT rfl ?_
  refine Hs.evb (aQh l i 6) ?_
  exact Hs.pure ⟨rfl,rfl,rfl,fun _=>rfl,trivial⟩
 | true =>
  have hin:=hin rfl
  refine Hs.isF rfl ?_
  exact Hs.pure ⟨rfl,by simp only [if_true]; rw [wr1 (by omega)],rfl,fun _=>rfl,trivial⟩
theorem aVz (i:Nat):Hs (fun K=>cY K l (i:Int) 0) (QS l (fun _=>True) (lgR l i)):=by
 suffices h:Hs (fun K=>hP K l (i:Int) 0) (QS l (fun _=>True) (lgR l i)) by
  obtain ⟨⟨a,l',i',e'⟩,h1,h2⟩:=h
  exact Hs.congr (f:=fun K=>_) (Hs.evb h1 (Hs.pure h2)) (fun k=>by rw [cY])
 refine Hs.congr (f:=fun K=>_) ?_ (fun k=>by rw [hP])
 have p:=aK6 l i
 unfold lgR
 have hin:=aWF (l:=l) (i:=(i:Int))
 generalize aDm l (i:Int)=N at *
 obtain ⟨s,b⟩:=N
 refine Hs.evb p ?_
 refine Hs.n (fun h=>absurd rfl h) (fun _=>?_)
 cases b with
 | false =>
  refine Hs.isT rfl ?_
  refine Hs.evb (aQh l i 6) ?_
  exact Hs.pure ⟨rfl,rfl,rfl,fun _=>rfl,trivial⟩
 | true =>
  have hin:=hin rfl
  refine Hs.isF rfl ?_
  exact Hs.pure ⟨rfl,by simp only [if_true]; rw [wr1 (by omega)],rfl,fun _=>rfl,trivial⟩
theorem bER {i:Nat} (hi:i≤l.length):Hs (fun K=>iP K l (i:Int) 0) (QS l TT (tyR l i)):=by
 refine Hs.congr (f:=fun K=>_) ?_ (fun k=>by rw [iP])
 suffices h:Hs (fun K=>gY K l (i:Int) 0) (QS l TT (tyR l i)) by
  obtain ⟨⟨a,l',i',e'⟩,h1,h2⟩:=h
  exact Hs.evb h1 (Hs.pure h2)
 refine Hs.congr (f:=fun K=>_) ?_ (fun k=>by rw [gY])
 refine Hs.n (fun h=>absurd rfl h) (fun _=>?_)
 refine Hs.evb (aXY hl hi) ?_
 refine Hs.evb (aQh l _ _) ?_
 exact Hs.pure ⟨rfl,rfl,rfl,fun he=>if_pos he,trivial⟩
theorem bI8 {i:Nat} (hi:i≤l.length):Hs (fun K=>lZ K l (i:Int) 0) (QS l TT (exR l i)):=by
 refine Hs.congr (f:=fun K=>_) ?_ (fun k=>by rw [lZ])
 suffices h:Hs (fun K=>gV K l (i:Int) 0) (QS l TT (exR l i)) by
  obtain ⟨⟨a,l',i',e'⟩,h1,h2⟩:=h
  exact Hs.evb h1 (Hs.pure h2)
 refine Hs.congr (f:=fun K=>_) ?_ (fun k=>by rw [gV])
 refine Hs.n (fun h=>absurd rfl h) (fun _=>?_)
 have p:=bHj hl (n:=8 * l.length+6) hi (by omega)
 refine Hs.evb p ?_
 refine Hs.evb (aQh l _ _) ?_
 exact Hs.pure ⟨rfl,rfl,rfl,fun he=>if_pos he,trivial⟩
theorem bF9 {i:Nat} (hi:i≤l.length):Hs (fun K=>kG K l (i:Int) 0) (QS l (fun a=>a.length≤40000) (cnR l i)):=by
 obtain ⟨c',h1,h5,h4,h3⟩:=(aWl hl (3 * l.length+3) i hi).2.2.2 (by omega) [] [] (fun s=>by simp [jN]) (by simp)
 unfold cnR
 generalize aHu l (3 * l.length+3) i []=g at *
 have hw:g.2.2=0→c'.length≤40000:=fun h=>by
  obtain ⟨e,_,h7⟩:=h5 h
  have:=aGJ g.1
  rw [aK] at h7
  rw [e]; omega
 have hc:Ev (fun K=>aEU K l (i:Int)) (if g.2.2=0 then c' else [],((g.2.1:Nat):Int),g.2.2):=by
  refine Ev.congr (f:=fun K=>_) ?_ (fun k=>by rw [aEU])
  refine Ev.bind (aYO hl (by omega)) ?_
  refine Ev.bind (a:=(c',l,((g.2.1:Nat):Int),g.2.2)) (Ev.step (fun k=>by rw [fC]) h1) ?_
  refine Ev.n (fun he=>Ev.pure' (by rw [if_neg he])) (fun he=>Ev.pure' (by rw [if_pos he,he]))
 refine Hs.congr (f:=fun K=>_) ?_ (fun k=>by rw [kG])
 refine Hs.n (fun h=>absurd rfl h) (fun _=>?_)
 refine Hs.evb hc ?_
 refine Hs.evb (aQh l _ _) ?_
 refine Hs.pure ⟨rfl,rfl,rfl,fun he=>?_,?_⟩
 ·simp only; rw [if_pos he]; exact (h5 he).1
 ·simp only
  by_cases he:g.2.2=0
  ·rw [if_pos he]; exact hw he
  ·rw [if_neg he]; simp
theorem aSd {s:List UInt8} {F:Nat→List aF→Int→Int→Option (Tr×List aF×Int×Int)} {B:Nat→Option (Tr×List aF×Int×Int)} {f:Nat→RT} {i:Nat} {v:Tr} (hi:i≤l.length)
  (hB:∀ Q:Tr×List aF×Int×Int→Prop,Hs (fun K=>(bC K l (i:Int) 0 [s]).bind fun (v1,v2,v3)=>(F K v1 v2 v3).bind fun (v4,v5,v6,v7)=>some (v4,v5,v6,v7)) Q→Hs B Q)
  (hF:∀ j,j≤l.length→i<j→Hs (fun K=>F K l (j:Int) 0) (QS l TT (f j))) (hE:∀ (j:Nat) e,e≠0→Ev (fun K=>F K l (j:Int) e) (v,l,(j:Int),e)):Hs B (QS l TT (bhd .nil l s f i)):=by
 refine hB _ ?_
 have b:=eQ l [s] i hi
 have p:=aHL hl [s] (by simp) i
 have st:(ks l [s] i).2.2=0→i<(ks l [s] i).2.1:=fun h=>by
  rw [ks] at h ⊢
  by_cases hk:bE l (i:Int) s=true
  ·rw [if_pos hk,ks]; simp
  ·rw [if_neg hk] at h; exact absurd (show (6:Int)=0 from h) (by decide)
 unfold bhd
 generalize ks l [s] i=g at *
 obtain ⟨b1,b2⟩:=b
 refine Hs.parU p (fun h=>?_) (fun he=>?_)
 ·obtain ⟨⟨a,l',i',e'⟩,h1,h2⟩:=hF g.2.1 b2 (st h)
  exact Hs.evb h1 (Hs.pure h2)
 ·exact Hs.evb (hE _ _ he) (Hs.pure ⟨rfl,rfl,rfl,fun h=>absurd h he,trivial⟩)
theorem bF5 {i:Nat} (s:List UInt8) (hi:i≤l.length):Hs (fun K=>eO K l (i:Int) 0 s) (QS l TT (bhd .nil l s (fun j=>tyR l j) i)) :=
 aSd hl hi (fun _ h=>Hs.congr h (fun k=>by rw [eO])) (fun j hj _=>bER hl hj) (fun j e he=>aFJ l j e he)
theorem bCP {i:Nat} (s:List UInt8) (hi:i≤l.length):Hs (fun K=>eY K l (i:Int) 0 s) (QS l TT (bhd .nil l s (fun j=>exR l j) i)) :=
 aSd hl hi (fun _ h=>Hs.congr h (fun k=>by rw [eY])) (fun j hj _=>bI8 hl hj) (fun j e he=>aVC l j e he)
end
end Go.Proofs.YtjhfgiieicloeaaGreatDoor

