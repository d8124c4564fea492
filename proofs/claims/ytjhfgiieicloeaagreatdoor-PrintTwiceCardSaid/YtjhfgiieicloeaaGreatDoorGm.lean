/- Joined texts: M1, M2, M3a. -/
import Derived.Test.YtjhfgiieicloeaaGreatDoorGy
/- The parser of modules as plain functions of the tokens. -/
namespace Go.Proofs.YtjhfgiieicloeaaGreatDoor
open Go Go.Am Go.Sx
abbrev LT:=List Tr×Nat×Int
def lgR (l:List aF) (i:Nat):List UInt8×Nat×Int:=if (yH l (i:Int)).2=true then ((yH l (i:Int)).1,i+1,0) else ([],i,6)
def exR (l:List aF) (i:Nat):RT:=dZ l (8 * l.length+6) i
def cnR (l:List aF) (i:Nat):LT:=aCc l (3 * l.length+3) i []
def bhd {α:Type} (d:α) (l:List aF) (s:List UInt8) (f:Nat→α×Nat×Int) (i:Nat):α×Nat×Int:=bnd d (ks l [s] i) fun _ j=>f j
def aAI (l:List aF) (i:Nat) (t:List (List UInt8)):Bool:=t.any fun s=>aU l (i:Int) s
abbrev vC:List UInt8:=[118,97,108]
abbrev eT:List UInt8:=[116,121,112,101]
abbrev kY:List UInt8:=[100,97,116,97,116,121,112,101]
abbrev xA:List UInt8:=[115,116,114,117,99,116,117,114,101]
abbrev vQ:List UInt8:=[105,110,99,108,117,100,101]
abbrev yP:List UInt8:=[115,104,97,114,105,110,103]
abbrev yI:List UInt8:=[111,112,101,110]
abbrev aHH:List UInt8:=[115,105,103,110,97,116,117,114,101]
abbrev aHn:List UInt8:=[102,117,110,99,116,111,114]
abbrev aIs:List UInt8:=[115,116,114,117,99,116]
abbrev kSg:List UInt8:=[115,105,103]
abbrev aDK:List UInt8:=[101,110,100]
abbrev aDD:List UInt8:=[119,104,101,114,101]
mutual
def rD (l:List aF):Nat→Nat→RT
 | 0,i=>(.nil,i,6)
 | n+1,i=>bnd .nil (zV l n i) fun m i=>aBa l n m i
def aBa (l:List aF):Nat→Tr→Nat→RT
 | 0,_,i=>(.nil,i,6)
 | n+1,m,i =>
  if aU l (i:Int) [58]=true then bnd .nil (lQ l n (i+1)) fun s i=>aBa l n (.node 43 0 [] [] [m,s]) i
  else if aU l (i:Int) [58,62]=true then bnd .nil (lQ l n (i+1)) fun s i=>aBa l n (.node 43 1 [] [] [m,s]) i
  else (m,i,0)
def zV (l:List aF):Nat→Nat→RT
 | 0,i=>(.nil,i,6)
 | n+1,i =>
  if aU l (i:Int) aIs=true then bnd .nil (qE l n false [] (i+1)) fun k i=>bnd .nil (ks l [aDK] i) fun _ i=>(.node 40 0 [] [] k,i,0)
  else if aU l (i:Int) [40]=true then bnd .nil (rD l n (i+1)) fun m i=>bnd .nil (ks l [[41]] i) fun _ i=>(m,i,0)
  else if (kS l (i:Int)).2=true∧aU l ((i+1:Nat):Int) [40]=true then bnd .nil (rD l n (i+2)) fun m j=>bnd .nil (ks l [[41]] j) fun _ j=>(.node 42 0 (kS l (i:Int)).1 [] [m],j,0)
  else bnd .nil (lgR l i) fun s i=>(.node 41 0 s [] [],i,0)
def lQ (l:List aF):Nat→Nat→RT
 | 0,i=>(.nil,i,6)
 | n+1,i=>bnd .nil (aBV l n i) fun s i=>aCd l n s i
def aCd (l:List aF):Nat→Tr→Nat→RT
 | 0,_,i=>(.nil,i,6)
 | n+1,s,i =>
  if aU l (i:Int) aDD=true then bnd .nil (ks l [eT] (i+1)) fun _ i=>bnd .nil (lgR l i) fun g i=>bnd .nil (ks l [[61]] i) fun _ i=>bnd .nil (tyR l i) fun t i=>aCd l n (.node 52 0 g [] [s,t]) i
  else (s,i,0)
def aBV (l:List aF):Nat→Nat→RT
 | 0,i=>(.nil,i,6)
 | n+1,i =>
  if aU l (i:Int) kSg=true then bnd .nil (vA l n [] (i+1)) fun k i=>bnd .nil (ks l [aDK] i) fun _ i=>(.node 50 0 [] [] k,i,0)
  else bnd .nil (tW l i) fun s i=>(.node 51 0 s [] [],i,0)
def vA (l:List aF):Nat→List Tr→Nat→LT
 | 0,_,i=>([],i,6)
 | n+1,out,i=>if aAI l i [vC,eT,kY,xA,vQ,yP]=true then bnd [] (wH l n i) fun k i=>vA l n (out++[k]) i else (out,i,0)
def wH (l:List aF):Nat→Nat→RT
 | 0,i=>(.nil,i,6)
 | n+1,i =>
  if aU l (i:Int) vC=true then bnd .nil (tW l (i+1)) fun s i=>bnd .nil (bhd .nil l [58] (fun j=>tyR l j) i) fun t i=>(.node 60 0 s [] [t],i,0)
  else if aU l (i:Int) eT=true then bnd .nil (tW l (i+1)) fun s i=>if aU l (i:Int) [61]=true then bnd .nil (tyR l (i+1)) fun t i=>(.node 61 0 s [] [t],i,0) else (.node 61 0 s [] [],i,0)
  else if aU l (i:Int) kY=true then bnd .nil (tW l (i+1)) fun s i=>bnd .nil (ks l [[61]] i) fun _ i=>bnd .nil (cnR l i) fun k i=>(.node 62 0 s [] k,i,0)
  else if aU l (i:Int) xA=true then bnd .nil (tW l (i+1)) fun s i=>bnd .nil (bhd .nil l [58] (fun j=>lQ l n j) i) fun g i=>(.node 63 0 s [] [g],i,0)
  else if aU l (i:Int) vQ=true then bnd .nil (lQ l n (i+1)) fun g i=>(.node 64 0 [] [] [g],i,0)
  else if aU l (i:Int) yP=true then bnd .nil (ks l [eT] (i+1)) fun _ i=>bnd .nil (lgR l i) fun a i=>bnd .nil (ks l [[61]] i) fun _ i=>bnd .nil (lgR l i) fun b i=>(.node 65 0 a b [],i,0)
  else (.nil,i,6)
def qE (l:List aF):Nat→Bool→List Tr→Nat→LT
 | 0,_,_,i=>([],i,6)
 | n+1,top,out,i=>if (aAI l i [vC,eT,kY,xA,yI,vQ] || (top && aAI l i [aHH,aHn]))=true then bnd [] (uP l n top i) fun k i=>qE l n top (out++[k]) i else (out,i,0)
def uP (l:List aF):Nat→Bool→Nat→RT
 | 0,_,i=>(.nil,i,6)
 | n+1,top,i =>
  if aU l (i:Int) vC=true then bnd .nil (tW l (i+1)) fun s i =>
   if aU l (i:Int) [58]=true then bnd .nil (tyR l (i+1)) fun t i=>bnd .nil (bhd .nil l [61] (fun j=>exR l j) i) fun e i=>(.node 70 0 s [] [t,e],i,0)
   else bnd .nil (bhd .nil l [61] (fun j=>exR l j) i) fun e i=>(.node 70 0 s [] [e],i,0)
  else if aU l (i:Int) eT=true then bnd .nil (tW l (i+1)) fun s i=>bnd .nil (bhd .nil l [61] (fun j=>tyR l j) i) fun t i=>(.node 71 0 s [] [t],i,0)
  else if aU l (i:Int) kY=true then bnd .nil (tW l (i+1)) fun s i=>bnd .nil (ks l [[61]] i) fun _ i=>bnd .nil (cnR l i) fun k i=>(.node 72 0 s [] k,i,0)
  else if aU l (i:Int) xA=true then bnd .nil (tW l (i+1)) fun s i=>bnd .nil (bhd .nil l [61] (fun j=>rD l n j) i) fun m i=>(.node 73 0 s [] [m],i,0)
  else if aU l (i:Int) yI=true then bnd .nil (lgR l (i+1)) fun s i=>(.node 76 0 s [] [],i,0)
  else if aU l (i:Int) vQ=true then bnd .nil (lgR l (i+1)) fun s i=>(.node 77 0 s [] [],i,0)
  else if top=true∧aU l (i:Int) aHH=true then bnd .nil (tW l (i+1)) fun s i=>bnd .nil (bhd .nil l [61] (fun j=>lQ l n j) i) fun g i=>(.node 74 0 s [] [g],i,0)
  else if top=true∧aU l (i:Int) aHn=true then bnd .nil (tW l (i+1)) fun s i=>bnd .nil (ks l [[40]] i) fun _ i=>bnd .nil (tW l i) fun m i=>bnd .nil (bhd .nil l [58] (fun j=>lQ l n j) i) fun g i=>bnd .nil (ks l [[41]] i) fun _ i=>bnd .nil (bhd .nil l [61] (fun j=>rD l n j) i) fun d i=>(.node 75 0 s m [g,d],i,0)
  else (.nil,i,6)
end
theorem aCj {l:List aF} {i:Nat} (h:i≤l.length):Bw l i (lgR l i):=by
 unfold lgR
 by_cases hk:(yH l (i:Int)).2=true
 ·rw [if_pos hk]
  have:=aVF hk
  exact ⟨by simp only; omega,by simp only; omega⟩
 ·rw [if_neg hk]; exact ⟨Nat.le_refl _,h⟩
theorem aIK {l:List aF} {i:Nat} (h:(lgR l i).2.2=0):(lgR l i).2.1=i+1:=by
 unfold lgR at h ⊢
 by_cases hk:(yH l (i:Int)).2=true
 ·rw [if_pos hk]
 ·rw [if_neg hk] at h; exact absurd (show (6:Int)=0 from h) (by decide)
end Go.Proofs.YtjhfgiieicloeaaGreatDoor

/- Where the parser of modules stands: bounds of its plain functions. Printed by gen8/m2.py. -/
namespace Go.Proofs.YtjhfgiieicloeaaGreatDoor
open Go Go.Am Go.Sx
def Pr (l:List aF) (i0:Nat) (out:List Tr) (g:LT):Prop:=i0≤g.2.1∧g.2.1≤l.length∧(g.2.2=0→wL g.1+2 * i0≤wL out+2 * g.2.1)
theorem bCm {α:Type} {l:List aF} {i0:Nat} {out:List Tr} {r:α×Nat×Int} {f:α→Nat→LT} (h1:i0≤r.2.1) (h2:r.2.1≤l.length) (hf:r.2.2=0→Pr l i0 out (f r.1 r.2.1)):Pr l i0 out (bnd [] r f):=by
 unfold bnd
 by_cases h0:r.2.2=0
 ·rw [if_pos h0]; exact hf h0
 ·rw [if_neg h0]; exact ⟨h1,h2,fun h=>absurd h h0⟩
section
variable {l:List aF} (hl:l.length≤20000)
include hl
theorem aU1 {i:Nat} (hi:i≤l.length):Pz l i (2 * i) (exR l i):=eI hl _ i hi
theorem aVa {i:Nat} (hi:i≤l.length):Pq l i [] 0 (cnR l i):=by
 obtain ⟨c',_,h5,h4,h3⟩:=(aWe hl (3 * l.length+3) i hi).2.2.2 (by omega) [] [] (fun s=>by simp [jN]) (by simp)
 unfold cnR
 refine ⟨h4,h3,fun h=>?_⟩
 obtain ⟨_,h6,h7⟩:=h5 h
 exact ⟨h6,by omega⟩
omit hl in
theorem sK {s:List UInt8} {f:Nat→RT} {i:Nat} (hi:i≤l.length) (hf:∀ j,j≤l.length→Pz l j (2 * j) (f j)):Pz l i (2 * i) (bhd .nil l s f i):=by
 have b:=bX l [s] i hi
 unfold bhd
 generalize ks l [s] i=g at *
 obtain ⟨b1,b2⟩:=b
 refine aX b1 b2 fun _=>?_
 obtain ⟨c1,c2,c3⟩:=hf g.2.1 b2
 exact ⟨by omega,c2,fun h=>by have:=c3 h; omega⟩
theorem aWB:∀ n i,i≤l.length→Pz l i (2 * i) (rD l n i)∧(∀ i0 lo m,i0<i→m.w+1+lo≤2 * i→Pz l i0 lo (aBa l n m i))∧Pz l i (2 * i) (zV l n i)∧Pz l i (2 * i) (lQ l n i)∧(∀ i0 lo m,i0<i→m.w+1+lo≤2 * i→Pz l i0 lo (aCd l n m i)) ∧
  Pz l i (2 * i) (aBV l n i)∧(∀ out,Pr l i out (vA l n out i))∧Pz l i (2 * i) (wH l n i)∧(∀ top out,Pr l i out (qE l n top out i))∧(∀ top,Pz l i (2 * i) (uP l n top i)):=by
 intro n
 induction n with
 | zero =>
  intro i hi
  refine ⟨?_,fun i0 lo m h _=>?_,?_,?_,fun i0 lo m h _=>?_,?_,fun out=>?_,?_,fun top out=>?_,fun top=>?_⟩
  ·rw [rD]; exact nK (Nat.le_refl _) hi (by decide)
  ·rw [aBa]; exact nK (by omega) hi (by decide)
  ·rw [zV]; exact nK (Nat.le_refl _) hi (by decide)
  ·rw [lQ]; exact nK (Nat.le_refl _) hi (by decide)
  ·rw [aCd]; exact nK (by omega) hi (by decide)
  ·rw [aBV]; exact nK (Nat.le_refl _) hi (by decide)
  ·rw [vA]; exact ⟨Nat.le_refl _,hi,fun h=>absurd (show (6:Int)=0 from h) (by decide)⟩
  ·rw [wH]; exact nK (Nat.le_refl _) hi (by decide)
  ·rw [qE]; exact ⟨Nat.le_refl _,hi,fun h=>absurd (show (6:Int)=0 from h) (by decide)⟩
  ·rw [uP]; exact nK (Nat.le_refl _) hi (by decide)
 | succ n ih =>
  intro i hi
  have ihM:∀ j,j≤l.length→Pz l j (2 * j) (rD l n j):=fun j h=>(ih j h).1
  have ihML:∀ j,j≤l.length→∀ i0 lo m,i0<j→m.w+1+lo≤2 * j→Pz l i0 lo (aBa l n m j):=fun j h=>(ih j h).2.1
  have ihP:∀ j,j≤l.length→Pz l j (2 * j) (zV l n j):=fun j h=>(ih j h).2.2.1
  have ihS:∀ j,j≤l.length→Pz l j (2 * j) (lQ l n j):=fun j h=>(ih j h).2.2.2.1
  have ihSL:∀ j,j≤l.length→∀ i0 lo m,i0<j→m.w+1+lo≤2 * j→Pz l i0 lo (aCd l n m j):=fun j h=>(ih j h).2.2.2.2.1
  have ihB:∀ j,j≤l.length→Pz l j (2 * j) (aBV l n j):=fun j h=>(ih j h).2.2.2.2.2.1
  have ihSs:∀ out j,j≤l.length→Pr l j out (vA l n out j):=fun out j h=>(ih j h).2.2.2.2.2.2.1 out
  have ihSp:∀ j,j≤l.length→Pz l j (2 * j) (wH l n j):=fun j h=>(ih j h).2.2.2.2.2.2.2.1
  have ihDs:∀ top out j,j≤l.length→Pr l j out (qE l n top out j):=fun top out j h=>(ih j h).2.2.2.2.2.2.2.2.1 top out
  have ihD:∀ top j,j≤l.length→Pz l j (2 * j) (uP l n top j):=fun top j h=>(ih j h).2.2.2.2.2.2.2.2.2 top
  refine ⟨?_,fun i0 lo m ha hw=>?_,?_,?_,fun i0 lo m ha hw=>?_,?_,fun out=>?_,?_,fun top out=>?_,fun top=>?_⟩
  ·rw [rD]
   have b:=ihP (i) (by omega)
   generalize zV l n (i)=g1 at *
   obtain ⟨g1a,g1b,g1c⟩:=b
   refine aX (by omega) g1b fun h1=>?_
   have g1c:=g1c h1
   exact ihML g1.2.1 g1b i (2 * i) g1.1 (by omega) (by omega)
  ·rw [aBa]
   by_cases k0:aU l (i:Int) [58]=true
   ·rw [if_pos k0]
    have hin:=aN k0
    have b:=ihS (i+1) (by omega)
    generalize lQ l n (i+1)=g1 at *
    obtain ⟨g1a,g1b,g1c⟩:=b
    refine aX (by omega) g1b fun h1=>?_
    have g1c:=g1c h1
    exact ihML g1.2.1 g1b i0 lo _ (by omega) (by simp only [aH,aC,aI]; omega)
   rw [if_neg k0]
   by_cases k1:aU l (i:Int) [58,62]=true
   ·rw [if_pos k1]
    have hin:=aN k1
    have b:=ihS (i+1) (by omega)
    generalize lQ l n (i+1)=g1 at *
    obtain ⟨g1a,g1b,g1c⟩:=b
    refine aX (by omega) g1b fun h1=>?_
    have g1c:=g1c h1
    exact ihML g1.2.1 g1b i0 lo _ (by omega) (by simp only [aH,aC,aI]; omega)
   rw [if_neg k1]
   exact ⟨by simp only; omega,hi,fun _=>⟨by simp only; omega,hw⟩⟩
  ·rw [zV]
   by_cases k0:aU l (i:Int) aIs=true
   ·rw [if_pos k0]
    have hin:=aN k0
    have b:=ihDs false [] (i+1) (by omega)
    generalize qE l n false [] (i+1)=g1 at *
    obtain ⟨g1a,g1b,g1c⟩:=b
    refine aX (by omega) g1b fun h1=>?_
    have g1c:=g1c h1
    rw [aI] at g1c
    have b:=bX l [aDK] (g1.2.1) (by omega)
    generalize ks l [aDK] (g1.2.1)=g2 at *
    obtain ⟨g2a,g2b⟩:=b
    refine aX (by omega) g2b fun h2=>?_
    exact ⟨by simp only; omega,by simp only; omega,fun _=>⟨by simp only; omega,by simp only [aH,aC,aI]; omega⟩⟩
   rw [if_neg k0]
   by_cases k1:aU l (i:Int) [40]=true
   ·rw [if_pos k1]
    have hin:=aN k1
    have b:=ihM (i+1) (by omega)
    generalize rD l n (i+1)=g1 at *
    obtain ⟨g1a,g1b,g1c⟩:=b
    refine aX (by omega) g1b fun h1=>?_
    have g1c:=g1c h1
    have b:=bX l [[41]] (g1.2.1) (by omega)
    generalize ks l [[41]] (g1.2.1)=g2 at *
    obtain ⟨g2a,g2b⟩:=b
    refine aX (by omega) g2b fun h2=>?_
    exact ⟨by simp only; omega,by simp only; omega,fun _=>⟨by simp only; omega,by simp only; omega⟩⟩
   rw [if_neg k1]
   by_cases k2:(kS l (i:Int)).2=true∧aU l ((i+1:Nat):Int) [40]=true
   ·rw [if_pos k2]
    have hin:=aN k2.2
    have b:=ihM (i+2) (by omega)
    generalize rD l n (i+2)=g1 at *
    obtain ⟨g1a,g1b,g1c⟩:=b
    refine aX (by omega) g1b fun h1=>?_
    have g1c:=g1c h1
    have b:=bX l [[41]] (g1.2.1) (by omega)
    generalize ks l [[41]] (g1.2.1)=g2 at *
    obtain ⟨g2a,g2b⟩:=b
    refine aX (by omega) g2b fun h2=>?_
    exact ⟨by simp only; omega,by simp only; omega,fun _=>⟨by simp only; omega,by simp only [aH,aC,aI]; omega⟩⟩
   rw [if_neg k2]
   have b:=aCj (l:=l) (i:=i) (by omega)
   have sN:=aIK (l:=l) (i:=i)
   generalize lgR l (i)=g1 at *
   obtain ⟨g1a,g1b⟩:=b
   refine aX (by omega) g1b fun h1=>?_
   have s1:=sN h1
   exact ⟨by simp only; omega,by simp only; omega,fun _=>⟨by simp only; omega,by simp only [aH,aC,aI]; omega⟩⟩
  ·rw [lQ]
   have b:=ihB (i) (by omega)
   generalize aBV l n (i)=g1 at *
   obtain ⟨g1a,g1b,g1c⟩:=b
   refine aX (by omega) g1b fun h1=>?_
   have g1c:=g1c h1
   exact ihSL g1.2.1 g1b i (2 * i) g1.1 (by omega) (by omega)
  ·rw [aCd]
   by_cases k0:aU l (i:Int) aDD=true
   ·rw [if_pos k0]
    have hin:=aN k0
    have b:=bX l [eT] (i+1) (by omega)
    generalize ks l [eT] (i+1)=g1 at *
    obtain ⟨g1a,g1b⟩:=b
    refine aX (by omega) g1b fun h1=>?_
    have b:=aCj (l:=l) (i:=g1.2.1) (by omega)
    have sN:=aIK (l:=l) (i:=g1.2.1)
    generalize lgR l (g1.2.1)=g2 at *
    obtain ⟨g2a,g2b⟩:=b
    refine aX (by omega) g2b fun h2=>?_
    have s2:=sN h2
    have b:=bX l [[61]] (g2.2.1) (by omega)
    generalize ks l [[61]] (g2.2.1)=g3 at *
    obtain ⟨g3a,g3b⟩:=b
    refine aX (by omega) g3b fun h3=>?_
    have b:=zT hl (i:=g3.2.1) (by omega)
    generalize tyR l (g3.2.1)=g4 at *
    obtain ⟨g4a,g4b,g4c⟩:=b
    refine aX (by omega) g4b fun h4=>?_
    have g4c:=g4c h4
    exact ihSL g4.2.1 g4b i0 lo _ (by omega) (by simp only [aH,aC,aI]; omega)
   rw [if_neg k0]
   exact ⟨by simp only; omega,hi,fun _=>⟨by simp only; omega,hw⟩⟩
  ·rw [aBV]
   by_cases k0:aU l (i:Int) kSg=true
   ·rw [if_pos k0]
    have hin:=aN k0
    have b:=ihSs [] (i+1) (by omega)
    generalize vA l n [] (i+1)=g1 at *
    obtain ⟨g1a,g1b,g1c⟩:=b
    refine aX (by omega) g1b fun h1=>?_
    have g1c:=g1c h1
    rw [aI] at g1c
    have b:=bX l [aDK] (g1.2.1) (by omega)
    generalize ks l [aDK] (g1.2.1)=g2 at *
    obtain ⟨g2a,g2b⟩:=b
    refine aX (by omega) g2b fun h2=>?_
    exact ⟨by simp only; omega,by simp only; omega,fun _=>⟨by simp only; omega,by simp only [aH,aC,aI]; omega⟩⟩
   rw [if_neg k0]
   have b:=iJ (l:=l) (i:=i) (by omega)
   have sN:=oZ (l:=l) (i:=i)
   generalize tW l (i)=g1 at *
   obtain ⟨g1a,g1b⟩:=b
   refine aX (by omega) g1b fun h1=>?_
   have s1:=sN h1
   exact ⟨by simp only; omega,by simp only; omega,fun _=>⟨by simp only; omega,by simp only [aH,aC,aI]; omega⟩⟩
  ·rw [vA]
   by_cases k0:aAI l i [vC,eT,kY,xA,vQ,yP]=true
   ·rw [if_pos k0]
    have b:=ihSp i (by omega)
    generalize wH l n i=g1 at *
    obtain ⟨g1a,g1b,g1c⟩:=b
    refine bCm (by omega) g1b fun h1=>?_
    have g1c:=g1c h1
    have b:=ihSs (out++[g1.1]) g1.2.1 g1b
    obtain ⟨q1,q2,q3⟩:=b
    refine ⟨by omega,q2,fun h=>?_⟩
    have:=q3 h
    rw [aHo,aC,aI] at this
    omega
   rw [if_neg k0]
   exact ⟨by simp only; omega,hi,fun _=>by simp only; omega⟩
  ·rw [wH]
   by_cases k0:aU l (i:Int) vC=true
   ·rw [if_pos k0]
    have hin:=aN k0
    have b:=iJ (l:=l) (i:=i+1) (by omega)
    have sN:=oZ (l:=l) (i:=i+1)
    generalize tW l (i+1)=g1 at *
    obtain ⟨g1a,g1b⟩:=b
    refine aX (by omega) g1b fun h1=>?_
    have s1:=sN h1
    have b:=sK (s:=[58]) (f:=fun j=>tyR l j) (i:=g1.2.1) (by omega) (fun j hj=>zT hl hj)
    generalize bhd .nil l [58] (fun j=>tyR l j) (g1.2.1)=g2 at *
    obtain ⟨g2a,g2b,g2c⟩:=b
    refine aX (by omega) g2b fun h2=>?_
    have g2c:=g2c h2
    exact ⟨by simp only; omega,by simp only; omega,fun _=>⟨by simp only; omega,by simp only [aH,aC,aI]; omega⟩⟩
   rw [if_neg k0]
   by_cases k1:aU l (i:Int) eT=true
   ·rw [if_pos k1]
    have hin:=aN k1
    have b:=iJ (l:=l) (i:=i+1) (by omega)
    have sN:=oZ (l:=l) (i:=i+1)
    generalize tW l (i+1)=g1 at *
    obtain ⟨g1a,g1b⟩:=b
    refine aX (by omega) g1b fun h1=>?_
    have s1:=sN h1
    by_cases j1:aU l (g1.2.1:Int) [61]=true
    ·rw [if_pos j1]
     have hin2:=aN j1
     have b:=zT hl (i:=g1.2.1+1) (by omega)
     generalize tyR l (g1.2.1+1)=g2 at *
     obtain ⟨g2a,g2b,g2c⟩:=b
     refine aX (by omega) g2b fun h2=>?_
     have g2c:=g2c h2
     exact ⟨by simp only; omega,by simp only; omega,fun _=>⟨by simp only; omega,by simp only [aH,aC,aI]; omega⟩⟩
    rw [if_neg j1]
    exact ⟨by simp only; omega,by simp only; omega,fun _=>⟨by simp only; omega,by simp only [aH,aC,aI]; omega⟩⟩
   rw [if_neg k1]
   by_cases k2:aU l (i:Int) kY=true
   ·rw [if_pos k2]
    have hin:=aN k2
    have b:=iJ (l:=l) (i:=i+1) (by omega)
    have sN:=oZ (l:=l) (i:=i+1)
    generalize tW l (i+1)=g1 at *
    obtain ⟨g1a,g1b⟩:=b
    refine aX (by omega) g1b fun h1=>?_
    have s1:=sN h1
    have b:=bX l [[61]] (g1.2.1) (by omega)
    generalize ks l [[61]] (g1.2.1)=g2 at *
    obtain ⟨g2a,g2b⟩:=b
    refine aX (by omega) g2b fun h2=>?_
    have b:=aVa hl (i:=g2.2.1) (by omega)
    generalize cnR l (g2.2.1)=g3 at *
    obtain ⟨g3a,g3b,g3c⟩:=b
    refine aX (by omega) g3b fun h3=>?_
    have g3c:=g3c h3
    rw [aI] at g3c
    exact ⟨by simp only; omega,by simp only; omega,fun _=>⟨by simp only; omega,by simp only [aH,aC,aI]; omega⟩⟩
   rw [if_neg k2]
   by_cases k3:aU l (i:Int) xA=true
   ·rw [if_pos k3]
    have hin:=aN k3
    have b:=iJ (l:=l) (i:=i+1) (by omega)
    have sN:=oZ (l:=l) (i:=i+1)
    generalize tW l (i+1)=g1 at *
    obtain ⟨g1a,g1b⟩:=b
    refine aX (by omega) g1b fun h1=>?_
    have s1:=sN h1
    have b:=sK (s:=[58]) (f:=fun j=>lQ l n j) (i:=g1.2.1) (by omega) (fun j hj=>ihS j hj)
    generalize bhd .nil l [58] (fun j=>lQ l n j) (g1.2.1)=g2 at *
    obtain ⟨g2a,g2b,g2c⟩:=b
    refine aX (by omega) g2b fun h2=>?_
    have g2c:=g2c h2
    exact ⟨by simp only; omega,by simp only; omega,fun _=>⟨by simp only; omega,by simp only [aH,aC,aI]; omega⟩⟩
   rw [if_neg k3]
   by_cases k4:aU l (i:Int) vQ=true
   ·rw [if_pos k4]
    have hin:=aN k4
    have b:=ihS (i+1) (by omega)
    generalize lQ l n (i+1)=g1 at *
    obtain ⟨g1a,g1b,g1c⟩:=b
    refine aX (by omega) g1b fun h1=>?_
    have g1c:=g1c h1
    exact ⟨by simp only; omega,by simp only; omega,fun _=>⟨by simp only; omega,by simp only [aH,aC,aI]; omega⟩⟩
   rw [if_neg k4]
   by_cases k5:aU l (i:Int) yP=true
   ·rw [if_pos k5]
    have hin:=aN k5
    have b:=bX l [eT] (i+1) (by omega)
    generalize ks l [eT] (i+1)=g1 at *
    obtain ⟨g1a,g1b⟩:=b
    refine aX (by omega) g1b fun h1=>?_
    have b:=aCj (l:=l) (i:=g1.2.1) (by omega)
    have sN:=aIK (l:=l) (i:=g1.2.1)
    generalize lgR l (g1.2.1)=g2 at *
    obtain ⟨g2a,g2b⟩:=b
    refine aX (by omega) g2b fun h2=>?_
    have s2:=sN h2
    have b:=bX l [[61]] (g2.2.1) (by omega)
    generalize ks l [[61]] (g2.2.1)=g3 at *
    obtain ⟨g3a,g3b⟩:=b
    refine aX (by omega) g3b fun h3=>?_
    have b:=aCj (l:=l) (i:=g3.2.1) (by omega)
    have sN:=aIK (l:=l) (i:=g3.2.1)
    generalize lgR l (g3.2.1)=g4 at *
    obtain ⟨g4a,g4b⟩:=b
    refine aX (by omega) g4b fun h4=>?_
    have s4:=sN h4
    exact ⟨by simp only; omega,by simp only; omega,fun _=>⟨by simp only; omega,by simp only [aH,aC,aI]; omega⟩⟩
   rw [if_neg k5]
   exact nK (Nat.le_refl _) hi (by decide)
  ·rw [qE]
   by_cases k0:(aAI l i [vC,eT,kY,xA,yI,vQ] || (top && aAI l i [aHH,aHn]))=true
   ·rw [if_pos k0]
    have b:=ihD top i (by omega)
    generalize uP l n top i=g1 at *
    obtain ⟨g1a,g1b,g1c⟩:=b
    refine bCm (by omega) g1b fun h1=>?_
    have g1c:=g1c h1
    have b:=ihDs top (out++[g1.1]) g1.2.1 g1b
    obtain ⟨q1,q2,q3⟩:=b
    refine ⟨by omega,q2,fun h=>?_⟩
    have:=q3 h
    rw [aHo,aC,aI] at this
    omega
   rw [if_neg k0]
   exact ⟨by simp only; omega,hi,fun _=>by simp only; omega⟩
  ·rw [uP]
   by_cases k0:aU l (i:Int) vC=true
   ·rw [if_pos k0]
    have hin:=aN k0
    have b:=iJ (l:=l) (i:=i+1) (by omega)
    have sN:=oZ (l:=l) (i:=i+1)
    generalize tW l (i+1)=g1 at *
    obtain ⟨g1a,g1b⟩:=b
    refine aX (by omega) g1b fun h1=>?_
    have s1:=sN h1
    by_cases j0:aU l (g1.2.1:Int) [58]=true
    ·rw [if_pos j0]
     have hin2:=aN j0
     have b:=zT hl (i:=g1.2.1+1) (by omega)
     generalize tyR l (g1.2.1+1)=g2 at *
     obtain ⟨g2a,g2b,g2c⟩:=b
     refine aX (by omega) g2b fun h2=>?_
     have g2c:=g2c h2
     have b:=sK (s:=[61]) (f:=fun j=>exR l j) (i:=g2.2.1) (by omega) (fun j hj=>aU1 hl hj)
     generalize bhd .nil l [61] (fun j=>exR l j) (g2.2.1)=g3 at *
     obtain ⟨g3a,g3b,g3c⟩:=b
     refine aX (by omega) g3b fun h3=>?_
     have g3c:=g3c h3
     exact ⟨by simp only; omega,by simp only; omega,fun _=>⟨by simp only; omega,by simp only [aH,aC,aI]; omega⟩⟩
    rw [if_neg j0]
    have b:=sK (s:=[61]) (f:=fun j=>exR l j) (i:=g1.2.1) (by omega) (fun j hj=>aU1 hl hj)
    generalize bhd .nil l [61] (fun j=>exR l j) (g1.2.1)=g2 at *
    obtain ⟨g2a,g2b,g2c⟩:=b
    refine aX (by omega) g2b fun h2=>?_
    have g2c:=g2c h2
    exact ⟨by simp only; omega,by simp only; omega,fun _=>⟨by simp only; omega,by simp only [aH,aC,aI]; omega⟩⟩
   rw [if_neg k0]
   by_cases k1:aU l (i:Int) eT=true
   ·rw [if_pos k1]
    have hin:=aN k1
    have b:=iJ (l:=l) (i:=i+1) (by omega)
    have sN:=oZ (l:=l) (i:=i+1)
    generalize tW l (i+1)=g1 at *
    obtain ⟨g1a,g1b⟩:=b
    refine aX (by omega) g1b fun h1=>?_
    have s1:=sN h1
    have b:=sK (s:=[61]) (f:=fun j=>tyR l j) (i:=g1.2.1) (by omega) (fun j hj=>zT hl hj)
    generalize bhd .nil l [61] (fun j=>tyR l j) (g1.2.1)=g2 at *
    obtain ⟨g2a,g2b,g2c⟩:=b
    refine aX (by omega) g2b fun h2=>?_
    have g2c:=g2c h2
    exact ⟨by simp only; omega,by simp only; omega,fun _=>⟨by simp only; omega,by simp only [aH,aC,aI]; omega⟩⟩
   rw [if_neg k1]
   by_cases k2:aU l (i:Int) kY=true
   ·rw [if_pos k2]
    have hin:=aN k2
    have b:=iJ (l:=l) (i:=i+1) (by omega)
    have sN:=oZ (l:=l) (i:=i+1)
    generalize tW l (i+1)=g1 at *
    obtain ⟨g1a,g1b⟩:=b
    refine aX (by omega) g1b fun h1=>?_
    have s1:=sN h1
    have b:=bX l [[61]] (g1.2.1) (by omega)
    generalize ks l [[61]] (g1.2.1)=g2 at *
    obtain ⟨g2a,g2b⟩:=b
    refine aX (by omega) g2b fun h2=>?_
    have b:=aVa hl (i:=g2.2.1) (by omega)
    generalize cnR l (g2.2.1)=g3 at *
    obtain ⟨g3a,g3b,g3c⟩:=b
    refine aX (by omega) g3b fun h3=>?_
    have g3c:=g3c h3
    rw [aI] at g3c
    exact ⟨by simp only; omega,by simp only; omega,fun _=>⟨by simp only; omega,by simp only [aH,aC,aI]; omega⟩⟩
   rw [if_neg k2]
   by_cases k3:aU l (i:Int) xA=true
   ·rw [if_pos k3]
    have hin:=aN k3
    have b:=iJ (l:=l) (i:=i+1) (by omega)
    have sN:=oZ (l:=l) (i:=i+1)
    generalize tW l (i+1)=g1 at *
    obtain ⟨g1a,g1b⟩:=b
    refine aX (by omega) g1b fun h1=>?_
    have s1:=sN h1
    have b:=sK (s:=[61]) (f:=fun j=>rD l n j) (i:=g1.2.1) (by omega) (fun j hj=>ihM j hj)
    generalize bhd .nil l [61] (fun j=>rD l n j) (g1.2.1)=g2 at *
    obtain ⟨g2a,g2b,g2c⟩:=b
    refine aX (by omega) g2b fun h2=>?_
    have g2c:=g2c h2
    exact ⟨by simp only; omega,by simp only; omega,fun _=>⟨by simp only; omega,by simp only [aH,aC,aI]; omega⟩⟩
   rw [if_neg k3]
   by_cases k4:aU l (i:Int) yI=true
   ·rw [if_pos k4]
    have hin:=aN k4
    have b:=aCj (l:=l) (i:=i+1) (by omega)
    have sN:=aIK (l:=l) (i:=i+1)
    generalize lgR l (i+1)=g1 at *
    obtain ⟨g1a,g1b⟩:=b
    refine aX (by omega) g1b fun h1=>?_
    have s1:=sN h1
    exact ⟨by simp only; omega,by simp only; omega,fun _=>⟨by simp only; omega,by simp only [aH,aC,aI]; omega⟩⟩
   rw [if_neg k4]
   by_cases k5:aU l (i:Int) vQ=true
   ·rw [if_pos k5]
    have hin:=aN k5
    have b:=aCj (l:=l) (i:=i+1) (by omega)
    have sN:=aIK (l:=l) (i:=i+1)
    generalize lgR l (i+1)=g1 at *
    obtain ⟨g1a,g1b⟩:=b
    refine aX (by omega) g1b fun h1=>?_
    have s1:=sN h1
    exact ⟨by simp only; omega,by simp only; omega,fun _=>⟨by simp only; omega,by simp only [aH,aC,aI]; omega⟩⟩
   rw [if_neg k5]
   by_cases k6:top=true∧aU l (i:Int) aHH=true
   ·rw [if_pos k6]
    have hin:=aN k6.2
    have b:=iJ (l:=l) (i:=i+1) (by omega)
    have sN:=oZ (l:=l) (i:=i+1)
    generalize tW l (i+1)=g1 at *
    obtain ⟨g1a,g1b⟩:=b
    refine aX (by omega) g1b fun h1=>?_
    have s1:=sN h1
    have b:=sK (s:=[61]) (f:=fun j=>lQ l n j) (i:=g1.2.1) (by omega) (fun j hj=>ihS j hj)
    generalize bhd .nil l [61] (fun j=>lQ l n j) (g1.2.1)=g2 at *
    obtain ⟨g2a,g2b,g2c⟩:=b
    refine aX (by omega) g2b fun h2=>?_
    have g2c:=g2c h2
    exact ⟨by simp only; omega,by simp only; omega,fun _=>⟨by simp only; omega,by simp only [aH,aC,aI]; omega⟩⟩
   rw [if_neg k6]
   by_cases k7:top=true∧aU l (i:Int) aHn=true
   ·rw [if_pos k7]
    have hin:=aN k7.2
    have b:=iJ (l:=l) (i:=i+1) (by omega)
    have sN:=oZ (l:=l) (i:=i+1)
    generalize tW l (i+1)=g1 at *
    obtain ⟨g1a,g1b⟩:=b
    refine aX (by omega) g1b fun h1=>?_
    have s1:=sN h1
    have b:=bX l [[40]] (g1.2.1) (by omega)
    generalize ks l [[40]] (g1.2.1)=g2 at *
    obtain ⟨g2a,g2b⟩:=b
    refine aX (by omega) g2b fun h2=>?_
    have b:=iJ (l:=l) (i:=g2.2.1) (by omega)
    have sN:=oZ (l:=l) (i:=g2.2.1)
    generalize tW l (g2.2.1)=g3 at *
    obtain ⟨g3a,g3b⟩:=b
    refine aX (by omega) g3b fun h3=>?_
    have s3:=sN h3
    have b:=sK (s:=[58]) (f:=fun j=>lQ l n j) (i:=g3.2.1) (by omega) (fun j hj=>ihS j hj)
    generalize bhd .nil l [58] (fun j=>lQ l n j) (g3.2.1)=g4 at *
    obtain ⟨g4a,g4b,g4c⟩:=b
    refine aX (by omega) g4b fun h4=>?_
    have g4c:=g4c h4
    have b:=bX l [[41]] (g4.2.1) (by omega)
    generalize ks l [[41]] (g4.2.1)=g5 at *
    obtain ⟨g5a,g5b⟩:=b
    refine aX (by omega) g5b fun h5=>?_
    have b:=sK (s:=[61]) (f:=fun j=>rD l n j) (i:=g5.2.1) (by omega) (fun j hj=>ihM j hj)
    generalize bhd .nil l [61] (fun j=>rD l n j) (g5.2.1)=g6 at *
    obtain ⟨g6a,g6b,g6c⟩:=b
    refine aX (by omega) g6b fun h6=>?_
    have g6c:=g6c h6
    exact ⟨by simp only; omega,by simp only; omega,fun _=>⟨by simp only; omega,by simp only [aH,aC,aI]; omega⟩⟩
   rw [if_neg k7]
   exact nK (Nat.le_refl _) hi (by decide)
end
end Go.Proofs.YtjhfgiieicloeaaGreatDoor

/- The parser of modules: keys, names, parts of other layers, what it does behind an error. -/
namespace Go.Proofs.YtjhfgiieicloeaaGreatDoor
open Go Go.Am Go.Sx
theorem iY (c:Int) (s:List UInt8) (ks:List Tr):Ev (fun K=>gR K c s ks) (.node c 0 s [] ks):=⟨0,fun _ _=>rfl⟩
theorem aI8 (c:Int) (s:List UInt8):Ev (fun K=>qX K c s) (c,0,s,[]):=⟨0,fun _ _=>rfl⟩
/-! ### behind an error -/
section
variable (l:List aF) (i e:Int) (he:e≠0)
include he
theorem lU (t:List UInt8):Ev (fun K=>aT K l i e t) (false,l,i,e) :=
 Ev.congr (f:=fun K=>_) (Ev.nT he Ev.pure) (fun k=>by rw [aT])
theorem aPE (c:Int):Ev (fun K=>dR K l i e c) (l,i,e) :=
 Ev.congr (f:=fun K=>_) (Ev.dF he Ev.pure) (fun k=>by rw [dR])
theorem aSY (t:List (List UInt8)) (ht:t.length≤1000):∀ (m j:Nat),t.length=j+m→Ev (fun K=>dG K t (j:Int) l i e) (l,i,e):=by
 intro m
 induction m with
 | zero =>
  intro j hj
  exact Ev.step (fun k=>by rw [dG]) (Ev.dF (by omega) Ev.pure)
 | succ m ih =>
  intro j hj
  refine Ev.step (fun k=>by rw [dG]) ?_
  refine Ev.dT (by omega) ?_
  refine Ev.opt (eM (by omega)) ?_
  refine Ev.bind (lU l i e he _) ?_
  refine Ev.isT rfl ?_
  refine Ev.bind (aPE l i e he _) ?_
  rw [dE (by omega)]
  exact ih (j+1) (by omega)
theorem jQ (t:List (List UInt8)) (ht:t.length≤1000):Ev (fun K=>bE K l i e t) (l,i,e):=by
 refine Ev.congr (f:=fun K=>_) ?_ (fun k=>by rw [bE])
 exact aSY l i e he t ht t.length 0 (by omega)
theorem bAY:Ev (fun K=>hQ K l i e) ([],l,i,e):=by
 refine Ev.congr (f:=fun K=>_) ?_ (fun k=>by rw [hQ])
 refine Ev.bind (aC9 l i) ?_
 refine Ev.nT he ?_
 exact Ev.bind (aPE l i e he 6) Ev.pure
theorem aYB:Ev (fun K=>iD K l i e) ([],l,i,e):=by
 refine Ev.congr (f:=fun K=>_) ?_ (fun k=>by rw [iD])
 refine Ev.bind (aKC l i) ?_
 refine Ev.nT he ?_
 exact Ev.bind (aPE l i e he 6) Ev.pure
theorem aO6:Ev (fun K=>bU K l i e) ([],l,i,e) :=
 Ev.congr (f:=fun K=>_) (Ev.bind (bAY l i e he) Ev.pure) (fun k=>by rw [bU])
theorem aCu:Ev (fun K=>dB K l i e) ([],l,i,e) :=
 Ev.congr (f:=fun K=>_) (Ev.bind (aYB l i e he) Ev.pure) (fun k=>by rw [dB])
theorem aYv:Ev (fun K=>hZ K l i e) (.nil,l,i,e) :=
 Ev.congr (f:=fun K=>_) (Ev.nT he Ev.pure) (fun k=>by rw [hZ])
theorem aYi:Ev (fun K=>hY K l i e) (.nil,l,i,e) :=
 Ev.congr (f:=fun K=>_) (Ev.nT he Ev.pure) (fun k=>by rw [hY])
theorem aE8:Ev (fun K=>iT K l i e) (.nil,l,i,e) :=
 Ev.congr (f:=fun K=>_) (Ev.bind (aYv l i e he) Ev.pure) (fun k=>by rw [iT])
theorem aU6:Ev (fun K=>mA K l i e) (.nil,l,i,e) :=
 Ev.congr (f:=fun K=>_) (Ev.bind (aYi l i e he) Ev.pure) (fun k=>by rw [mA])
theorem aK4:Ev (fun K=>kN K l i e) ([],l,i,e) :=
 Ev.congr (f:=fun K=>_) (Ev.nT he Ev.pure) (fun k=>by rw [kN])
theorem aUM (s:List UInt8):Ev (fun K=>eU K l i e s) (.nil,l,i,e) :=
 Ev.congr (f:=fun K=>_) (Ev.bind (jQ l i e he [s] (by simp)) (Ev.bind (aE8 l i e he) Ev.pure)) (fun k=>by rw [eU])
theorem aTj (s:List UInt8):Ev (fun K=>fG K l i e s) (.nil,l,i,e) :=
 Ev.congr (f:=fun K=>_) (Ev.bind (jQ l i e he [s] (by simp)) (Ev.bind (aU6 l i e he) Ev.pure)) (fun k=>by rw [fG])
theorem bAj:Ev (fun K=>eS K l i e) (.nil,l,i,e):=by
 refine Ev.step (fun k=>by rw [eS]) ?_
 repeat' first | refine Ev.bind (lU l i e he _) ?_ | refine Ev.isF rfl ?_
 exact Ev.pure
theorem bAe:Ev (fun K=>gK K l i e) (.node 51 0 [] [] [],l,i,e):=by
 refine Ev.step (fun k=>by rw [gK]) ?_
 refine Ev.bind (lU l i e he _) ?_
 refine Ev.isT rfl ?_
 refine Ev.bind (aO6 l i e he) ?_
 exact Ev.bind (aI8 ..) Ev.pure
theorem aEs (t:Tr):Ev (fun K=>dY K t l i e) (t,l,i,e):=by
 refine Ev.step (fun k=>by rw [dY]) ?_
 refine Ev.bind (lU l i e he _) ?_
 exact Ev.isF rfl Ev.pure
theorem aXi:Ev (fun K=>dJ K l i e) (.node 51 0 [] [] [],l,i,e):=by
 refine Ev.step (fun k=>by rw [dJ]) ?_
 exact Ev.bind (bAe l i e he) (aEs l i e he _)
theorem aHt (s:List UInt8):Ev (fun K=>dL K l i e s) (.node 51 0 [] [] [],l,i,e):=by
 refine Ev.step (fun k=>by rw [dL]) ?_
 exact Ev.bind (jQ l i e he [s] (by simp)) (Ev.bind (aXi l i e he) Ev.pure)
theorem bAV:Ev (fun K=>gQ K l i e) (.node 41 0 [] [] [],l,i,e):=by
 refine Ev.step (fun k=>by rw [gQ]) ?_
 refine Ev.bind (lU l i e he _) ?_
 refine Ev.isF rfl ?_
 refine Ev.bind (lU l i e he _) ?_
 refine Ev.isF rfl ?_
 have pn:=aC9 l i
 generalize kS l i=N at *
 obtain ⟨s,b⟩:=N
 refine Ev.bind pn ?_
 refine Ev.is (fun _=>?_) (fun _=>?_)
 ·refine Ev.bind (aC3 l _ _) ?_
  refine Ev.is (fun _=>?_) (fun _=>?_)
  ·refine Ev.dF he ?_
   refine Ev.bind (aCu l i e he) ?_
   exact Ev.bind (iY ..) Ev.pure
  ·refine Ev.bind (aCu l i e he) ?_
   exact Ev.bind (iY ..) Ev.pure
 ·refine Ev.bind (aCu l i e he) ?_
  exact Ev.bind (iY ..) Ev.pure
theorem aKY (t:Tr):Ev (fun K=>dD K t l i e) (t,l,i,e):=by
 refine Ev.step (fun k=>by rw [dD]) ?_
 refine Ev.bind (lU l i e he _) ?_
 refine Ev.isF rfl ?_
 refine Ev.bind (lU l i e he _) ?_
 exact Ev.isF rfl Ev.pure
theorem aWX:Ev (fun K=>eG K l i e) (.node 41 0 [] [] [],l,i,e):=by
 refine Ev.step (fun k=>by rw [eG]) ?_
 exact Ev.bind (bAV l i e he) (aKY l i e he _)
theorem aEA (s:List UInt8):Ev (fun K=>eB K l i e s) (.node 41 0 [] [] [],l,i,e):=by
 refine Ev.step (fun k=>by rw [eB]) ?_
 exact Ev.bind (jQ l i e he [s] (by simp)) (Ev.bind (aWX l i e he) Ev.pure)
theorem bAU (top:Bool):Ev (fun K=>eF K l i e top) (.nil,l,i,e):=by
 refine Ev.step (fun k=>by rw [eF]) ?_
 refine Ev.bind (lU l i e he _) (Ev.isF rfl ?_)
 refine Ev.bind (lU l i e he _) (Ev.isF rfl ?_)
 refine Ev.bind (lU l i e he _) (Ev.isF rfl ?_)
 refine Ev.bind (lU l i e he _) (Ev.isF rfl ?_)
 refine Ev.bind (lU l i e he _) (Ev.isF rfl ?_)
 refine Ev.bind (lU l i e he _) (Ev.isF rfl ?_)
 cases top with
 | false=>exact Ev.isF rfl Ev.pure
 | true =>
  refine Ev.isT rfl ?_
  refine Ev.bind (lU l i e he _) (Ev.isF rfl ?_)
  refine Ev.bind (lU l i e he _) (Ev.isF rfl ?_)
  exact Ev.pure
end
/-! ### no error yet -/
theorem hU {l:List aF} {i:Int} {t:List UInt8} (h:aU l i t=false):Ev (fun K=>aT K l i 0 t) (false,l,i,0):=by
 refine Ev.congr (f:=fun K=>_) ?_ (fun k=>by rw [aT])
 refine Ev.nF rfl ?_
 refine Ev.bind (aC3 l i t) ?_
 exact Ev.isT (by rw [h]; rfl) Ev.pure
theorem aO8 (l:List aF) (i c:Int):Ev (fun K=>dR K l i 0 c) (l,i,c) :=
 Ev.congr (f:=fun K=>_) (Ev.dT rfl Ev.pure) (fun k=>by rw [dR])
section
variable {l:List aF} (hl:l.length≤20000)
include hl
theorem pQ {i:Nat} {t:List UInt8} (h:aU l (i:Int) t=true):Ev (fun K=>aT K l (i:Int) 0 t) (true,l,((i+1:Nat):Int),0):=by
 have hin:=aN h
 refine Ev.congr (f:=fun K=>_) ?_ (fun k=>by rw [aT])
 refine Ev.nF rfl ?_
 refine Ev.bind (aC3 l i t) ?_
 exact Ev.isF (by rw [h]; rfl) (Ev.pure' (by rw [wr1 (by omega)]))
theorem bHA (t:List (List UInt8)) (ht:t.length≤1000):∀ (m j i:Nat),t.length=j+m→Ev (fun K=>dG K t (j:Int) l (i:Int) 0) (l,(((ks l (t.drop j) i).2.1:Nat):Int),(ks l (t.drop j) i).2.2):=by
 intro m
 induction m with
 | zero =>
  intro j i hj
  rw [List.drop_of_length_le (by omega),ks]
  exact Ev.step (fun k=>by rw [dG]) (Ev.dF (by omega) Ev.pure)
 | succ m ih =>
  intro j i hj
  have hlt:j<t.length:=by omega
  rw [kM hlt,ks]
  refine Ev.step (fun k=>by rw [dG]) ?_
  refine Ev.dT (by omega) ?_
  refine Ev.opt (eM hlt) ?_
  by_cases hk:aU l (i:Int) t[j]=true
  ·rw [if_pos hk]
   refine Ev.bind (pQ hl hk) ?_
   refine Ev.isF rfl ?_
   rw [dE (by omega)]
   exact ih (j+1) (i+1) (by omega)
  ·rw [if_neg hk]
   refine Ev.bind (hU (by simpa using hk)) ?_
   refine Ev.isT rfl ?_
   refine Ev.bind (aO8 l i 6) ?_
   rw [dE (by omega)]
   exact aSY l i 6 (by decide) t ht m (j+1) (by omega)
theorem aHK (t:List (List UInt8)) (ht:t.length≤1000) (i:Nat):Ev (fun K=>bE K l (i:Int) 0 t) (l,(((ks l t i).2.1:Nat):Int),(ks l t i).2.2):=by
 refine Ev.congr (f:=fun K=>_) ?_ (fun k=>by rw [bE])
 exact bHA hl t ht t.length 0 i (by omega)
theorem aI5 (i:Nat):Hs (fun K=>bU K l (i:Int) 0) (QS l (fun _=>True) (tW l i)):=by
 suffices h:Hs (fun K=>hQ K l (i:Int) 0) (QS l (fun _=>True) (tW l i)) by
  obtain ⟨⟨a,l',i',e'⟩,h1,h2⟩:=h
  exact Hs.congr (f:=fun K=>_) (Hs.evb h1 (Hs.pure h2)) (fun k=>by rw [bU])
 refine Hs.congr (f:=fun K=>_) ?_ (fun k=>by rw [hQ])
 have p:=aC9 l i
 unfold tW
 have hin:=aK5 (l:=l) (i:=(i:Int))
 generalize kS l (i:Int)=N at *
 obtain ⟨s,b⟩:=N
 refine Hs.evb p ?_
 refine Hs.n (fun h=>absurd rfl h) (fun _=>?_)
 cases b with
 | false =>
  refine Hs.isT rfl ?_
  refine Hs.evb (aO8 l i 6) ?_
  exact Hs.pure ⟨rfl,rfl,rfl,fun _=>rfl,trivial⟩
 | true =>
  have hin:=hin rfl
  refine Hs.isF rfl ?_
  exact Hs.pure ⟨rfl,by simp only [if_true]; rw [wr1 (by omega)],rfl,fun _=>rfl,trivial⟩
theorem aUD (i:Nat):Hs (fun K=>dB K l (i:Int) 0) (QS l (fun _=>True) (lgR l i)):=by
 suffices h:Hs (fun K=>iD K l (i:Int) 0) (QS l (fun _=>True) (lgR l i)) by
  obtain ⟨⟨a,l',i',e'⟩,h1,h2⟩:=h
  exact Hs.congr (f:=fun K=>_) (Hs.evb h1 (Hs.pure h2)) (fun k=>by rw [dB])
 refine Hs.congr (f:=fun K=>_) ?_ (fun k=>by rw [iD])
 have p:=aKC l i
 unfold lgR
 have hin:=aVF (l:=l) (i:=(i:Int))
 generalize yH l (i:Int)=N at *
 obtain ⟨s,b⟩:=N
 refine Hs.evb p ?_
 refine Hs.n (fun h=>absurd rfl h) (fun _=>?_)
 cases b with
 | false =>
  refine Hs.isT rfl ?_
  refine Hs.evb (aO8 l i 6) ?_
  exact Hs.pure ⟨rfl,rfl,rfl,fun _=>rfl,trivial⟩
 | true =>
  have hin:=hin rfl
  refine Hs.isF rfl ?_
  exact Hs.pure ⟨rfl,by simp only [if_true]; rw [wr1 (by omega)],rfl,fun _=>rfl,trivial⟩
theorem bEn {i:Nat} (hi:i≤l.length):Hs (fun K=>iT K l (i:Int) 0) (QS l TT (tyR l i)):=by
 refine Hs.congr (f:=fun K=>_) ?_ (fun k=>by rw [iT])
 suffices h:Hs (fun K=>hZ K l (i:Int) 0) (QS l TT (tyR l i)) by
  obtain ⟨⟨a,l',i',e'⟩,h1,h2⟩:=h
  exact Hs.evb h1 (Hs.pure h2)
 refine Hs.congr (f:=fun K=>_) ?_ (fun k=>by rw [hZ])
 refine Hs.n (fun h=>absurd rfl h) (fun _=>?_)
 refine Hs.evb (aXH hl hi) ?_
 refine Hs.evb (aO8 l _ _) ?_
 exact Hs.pure ⟨rfl,rfl,rfl,fun he=>if_pos he,trivial⟩
theorem bIG {i:Nat} (hi:i≤l.length):Hs (fun K=>mA K l (i:Int) 0) (QS l TT (exR l i)):=by
 refine Hs.congr (f:=fun K=>_) ?_ (fun k=>by rw [mA])
 suffices h:Hs (fun K=>hY K l (i:Int) 0) (QS l TT (exR l i)) by
  obtain ⟨⟨a,l',i',e'⟩,h1,h2⟩:=h
  exact Hs.evb h1 (Hs.pure h2)
 refine Hs.congr (f:=fun K=>_) ?_ (fun k=>by rw [hY])
 refine Hs.n (fun h=>absurd rfl h) (fun _=>?_)
 have p:=bGu hl (n:=8 * l.length+6) hi (by omega)
 refine Hs.evb p ?_
 refine Hs.evb (aO8 l _ _) ?_
 exact Hs.pure ⟨rfl,rfl,rfl,fun he=>if_pos he,trivial⟩
theorem bFw {i:Nat} (hi:i≤l.length):Hs (fun K=>kN K l (i:Int) 0) (QS l (fun a=>a.length≤40000) (cnR l i)):=by
 obtain ⟨c',h1,h5,h4,h3⟩:=(aWe hl (3 * l.length+3) i hi).2.2.2 (by omega) [] [] (fun s=>by simp [jN]) (by simp)
 unfold cnR
 generalize aCc l (3 * l.length+3) i []=g at *
 have hw:g.2.2=0→c'.length≤40000:=fun h=>by
  obtain ⟨e,_,h7⟩:=h5 h
  have:=aCR g.1
  rw [aI] at h7
  rw [e]; omega
 have hc:Ev (fun K=>aEW K l (i:Int)) (if g.2.2=0 then c' else [],((g.2.1:Nat):Int),g.2.2):=by
  refine Ev.congr (f:=fun K=>_) ?_ (fun k=>by rw [aEW])
  refine Ev.bind (aWA hl (by omega)) ?_
  refine Ev.bind (a:=(c',l,((g.2.1:Nat):Int),g.2.2)) (Ev.step (fun k=>by rw [fO]) h1) ?_
  refine Ev.n (fun he=>Ev.pure' (by rw [if_neg he])) (fun he=>Ev.pure' (by rw [if_pos he,he]))
 refine Hs.congr (f:=fun K=>_) ?_ (fun k=>by rw [kN])
 refine Hs.n (fun h=>absurd rfl h) (fun _=>?_)
 refine Hs.evb hc ?_
 refine Hs.evb (aO8 l _ _) ?_
 refine Hs.pure ⟨rfl,rfl,rfl,fun he=>?_,?_⟩
 ·simp only; rw [if_pos he]; exact (h5 he).1
 ·simp only
  by_cases he:g.2.2=0
  ·rw [if_pos he]; exact hw he
  ·rw [if_neg he]; simp
theorem aRl {s:List UInt8} {F:Nat→List aF→Int→Int→Option (Tr×List aF×Int×Int)} {B:Nat→Option (Tr×List aF×Int×Int)} {f:Nat→RT} {i:Nat} {v:Tr} (hi:i≤l.length)
  (hB:∀ Q:Tr×List aF×Int×Int→Prop,Hs (fun K=>(bE K l (i:Int) 0 [s]).bind fun (v1,v2,v3)=>(F K v1 v2 v3).bind fun (v4,v5,v6,v7)=>some (v4,v5,v6,v7)) Q→Hs B Q)
  (hF:∀ j,j≤l.length→i<j→Hs (fun K=>F K l (j:Int) 0) (QS l TT (f j))) (hE:∀ (j:Nat) e,e≠0→Ev (fun K=>F K l (j:Int) e) (v,l,(j:Int),e)):Hs B (QS l TT (bhd .nil l s f i)):=by
 refine hB _ ?_
 have b:=bX l [s] i hi
 have p:=aHK hl [s] (by simp) i
 have st:(ks l [s] i).2.2=0→i<(ks l [s] i).2.1:=fun h=>by
  rw [ks] at h ⊢
  by_cases hk:aU l (i:Int) s=true
  ·rw [if_pos hk,ks]; simp
  ·rw [if_neg hk] at h; exact absurd (show (6:Int)=0 from h) (by decide)
 unfold bhd
 generalize ks l [s] i=g at *
 obtain ⟨b1,b2⟩:=b
 refine Hs.parU p (fun h=>?_) (fun he=>?_)
 ·obtain ⟨⟨a,l',i',e'⟩,h1,h2⟩:=hF g.2.1 b2 (st h)
  exact Hs.evb h1 (Hs.pure h2)
 ·exact Hs.evb (hE _ _ he) (Hs.pure ⟨rfl,rfl,rfl,fun h=>absurd h he,trivial⟩)
theorem bFd {i:Nat} (s:List UInt8) (hi:i≤l.length):Hs (fun K=>eU K l (i:Int) 0 s) (QS l TT (bhd .nil l s (fun j=>tyR l j) i)) :=
 aRl hl hi (fun _ h=>Hs.congr h (fun k=>by rw [eU])) (fun j hj _=>bEn hl hj) (fun j e he=>aE8 l j e he)
theorem bCw {i:Nat} (s:List UInt8) (hi:i≤l.length):Hs (fun K=>fG K l (i:Int) 0 s) (QS l TT (bhd .nil l s (fun j=>exR l j) i)) :=
 aRl hl hi (fun _ h=>Hs.congr h (fun k=>by rw [fG])) (fun j hj _=>bIG hl hj) (fun j e he=>aU6 l j e he)
end
end Go.Proofs.YtjhfgiieicloeaaGreatDoor

