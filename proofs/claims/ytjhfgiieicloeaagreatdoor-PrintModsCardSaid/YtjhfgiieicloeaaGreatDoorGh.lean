/- Joined texts: KOk2. -/
import Derived.Test.YtjhfgiieicloeaaGreatDoorGg
/- That the Go functions come to the printed Lean functions, whatever they are handed. Printed by sxgen.py of this session. -/
namespace Go.Proofs.YtjhfgiieicloeaaGreatDoor
open Go Go.Am Go.Sx
set_option maxRecDepth 100000
def aCY:aP:={ fid:=97,Γ:=[.tree],args:=[(.var 0)],Δ:=[.str,(.int .i64)],res:=(.tup [(.var 0),(.var 1)]),f:=fun k x=>aGh k x }
def aNf:aF ((List UInt8)×Int):={}
def aMJ:List aP:=[aEj,oY]
theorem aUv (k:Nat) (x:Tr):aGh k x=fx xt aMJ aCY Tryz.f97 aNf (aA Tryz.f97) k x:=by kernel_rfl
theorem aUl (K:Nat):aE Tryz.prog aCY K:=aG (X:=xt) (g:=aCY) (H:=aNf) (env:=aMJ) (c:=aA Tryz.f97) aH mixed (fun k=>(aB.cons (aUX k) (aB.cons (aSX k) aB.nil))) Tryz.func97 (by kernel_rfl) (by kernel_rfl) (by kernel_rfl) (aC.all aC.zero (by kernel_rfl) (by kernel_rfl)) aUv K
def aEp:aP:={ fid:=63,Γ:=[.tree],args:=[(.var 0)],Δ:=[.str],res:=(.var 0),f:=fun k x=>uF k x }
def aOm:aF ((List UInt8)):={}
def aOq:List aP:=[aCY]
theorem aVq (k:Nat) (x:Tr):uF k x=fx xt aOq aEp Tryz.f63 aOm (aA Tryz.f63) k x:=by kernel_rfl
theorem aVm (K:Nat):aE Tryz.prog aEp K:=aG (X:=xt) (g:=aEp) (H:=aOm) (env:=aOq) (c:=aA Tryz.f63) aH mixed (fun k=>(aB.cons (aUl k) aB.nil)) Tryz.func63 (by kernel_rfl) (by kernel_rfl) (by kernel_rfl) (aC.all aC.zero (by kernel_rfl) (by kernel_rfl)) aVq K
def jJ:aP:={ fid:=61,Γ:=[(.list false .str)],args:=[(.var 0)],Δ:=[.str],res:=(.var 0),f:=fun k x=>bR k x }
def aDv:LH ((List UInt8)):={ Γ:=[(.list false .str),(.list false .str),(.int .i64)],live:=[(3,(.row 0 0)),(6,(.var 1)),(7,(.len 1)),(8,(.var 2))],sto:=[(0,(.list 9 0 none))],nk:=1,ad:=[.t 3 9 .str],F:=fun k x=>kN k x.1 x.2.1 x.2.2 }
def aHt:aF ((List UInt8)):={ loops:=[(3,aDv)] }
def aG8:List aP:=[vQ]
theorem aUH (k:Nat) (x:(List (List UInt8))):bR k x=fx xt aG8 jJ Tryz.f61 aHt (aA Tryz.f61) k x:=by kernel_rfl
theorem aPc (k:Nat) (x:(List (List UInt8))×(List (List UInt8))×Int):kN (k+1) x.1 x.2.1 x.2.2=gR xt aG8 21 0 aHt (aA Tryz.f61) (fJ xt.T Tryz.f61.results jJ) 0 aDv k x:=(kN.eq_def ..).trans (by kernel_rfl)
theorem pT (K:Nat):aE Tryz.prog jJ K:=aG (X:=xt) (g:=jJ) (H:=aHt) (env:=aG8) (c:=aA Tryz.f61) aH mixed (fun k=>(aB.cons (aAc k) aB.nil)) Tryz.func61 (by kernel_rfl) (by kernel_rfl) (by kernel_rfl) (aC.all (aC.zero.succ aDv (by kernel_rfl) (fun _=>rfl) aPc) (by kernel_rfl) (by kernel_rfl)) aUH K
def wX:aP:={ fid:=64,Γ:=[(.list false .tree)],args:=[(.var 0)],Δ:=[.str],res:=(.var 0),f:=fun k x=>aCD k x }
def aFY:LH ((List UInt8)):={ Γ:=[(.list false .str),(.list false .tree),(.int .i64)],live:=[(3,(.row 0 0)),(6,(.var 1)),(7,(.len 1)),(8,(.var 2))],sto:=[(0,(.list 9 0 none))],nk:=1,ad:=[.t 3 9 .str],F:=fun k x=>oW k x.1 x.2.1 x.2.2 }
def aJe:aF ((List UInt8)):={ ord:=[(5,[.l 0,.l 1,.l 2,.l 3,.l 4,.l 5,.l 6,.l 7,.l 8,.l 9,.l 10,.h 11,.l 12,.h 13,.l 14,.h 15,.m 16])],loops:=[(3,aFY)] }
def aIw:List aP:=[wG,jJ,vQ]
theorem aVh (k:Nat) (x:(List Tr)):aCD k x=fx xt aIw wX Tryz.f64 aJe (aA Tryz.f64) k x:=by kernel_rfl
theorem aQA (k:Nat) (x:(List (List UInt8))×(List Tr)×Int):oW (k+1) x.1 x.2.1 x.2.2=gR xt aIw 31 0 aJe (aA Tryz.f64) (fJ xt.T Tryz.f64.results wX) 0 aFY k x:=(oW.eq_def ..).trans (by kernel_rfl)
theorem aMH (K:Nat):aE Tryz.prog wX K:=aG (X:=xt) (g:=wX) (H:=aJe) (env:=aIw) (c:=aA Tryz.f64) aH mixed (fun k=>(aB.cons (aEq k) (aB.cons (pT k) (aB.cons (aAc k) aB.nil)))) Tryz.func64 (by kernel_rfl) (by kernel_rfl) (by kernel_rfl) (aC.all (aC.zero.succ aFY (by kernel_rfl) (fun _=>rfl) aQA) (by kernel_rfl) (by kernel_rfl)) aVh K
def aEb:aP:={ fid:=39,Γ:=[.tree],args:=[(.var 0)],Δ:=[.str],res:=(.var 0),f:=fun k x=>eD k x }
def aB0:aP:={ fid:=73,Γ:=[(.list false .tree)],args:=[(.var 0),(.fn 39 [] [])],Δ:=[.str],res:=(.var 0),f:=fun k x=>aCy k x }
def qT:aP:={ fid:=37,Γ:=[.tree],args:=[(.var 0)],Δ:=[.str],res:=(.var 0),f:=fun k x=>eS k x }
def aPs:aF ((List UInt8)):={ ord:=[(3,[.l 0,.l 1,.l 2,.l 3,.l 4,.l 5,.l 6,.l 7,.l 8,.l 9,.h 10,.l 11,.h 12,.l 13]),(7,[.l 0,.l 1,.l 2,.l 3,.l 4,.l 5,.l 6,.l 7,.l 8,.l 9,.h 10,.l 11,.h 12,.l 13]),(9,[.l 0,.l 1,.l 2,.l 3,.l 4,.l 5,.l 6,.l 7,.h 8,.l 9,.h 10,.l 11]),(11,[.l 0,.l 1,.l 2,.l 3,.l 4,.l 5,.l 6,.l 7,.l 8,.l 9,.h 10,.l 11,.h 12,.l 13]),(14,[.l 0,.l 1,.l 2,.l 3,.l 4,.l 5,.l 6,.l 7,.l 8,.h 9,.l 10])] }
def aPP:List aP:=[wG,jJ,wX,qT]
theorem aVB (k:Nat) (x:Tr):eD (k+1) x=fx xt aPP aEb Tryz.f39 aPs (aA Tryz.f39) k x:=(eD.eq_def ..).trans (by kernel_rfl)
def aFx:LH ((List UInt8)):={ Γ:=[(.list false .str),(.list false .tree),(.int .i64)],live:=[(1,(.fn 39 [] [])),(5,(.row 0 0)),(8,(.var 1)),(9,(.len 1)),(10,(.var 2))],sto:=[(0,(.list 9 0 none))],nk:=1,ad:=[.t 5 9 .str],F:=fun k x=>oP k x.1 x.2.1 x.2.2 }
def aIu:aF ((List UInt8)):={ loops:=[(3,aFx)] }
def aIk:List aP:=[aEb,jJ]
theorem aVI (k:Nat) (x:(List Tr)):aCy (k+1) x=fx xt aIk aB0 Tryz.f73 aIu (aA Tryz.f73) k x:=(aCy.eq_def ..).trans (by kernel_rfl)
theorem aQ2 (k:Nat) (x:(List (List UInt8))×(List Tr)×Int):oP (k+1) x.1 x.2.1 x.2.2=gR xt aIk 23 0 aIu (aA Tryz.f73) (fJ xt.T Tryz.f73.results aB0) 0 aFx k x:=(oP.eq_def ..).trans (by kernel_rfl)
def aRD:aF ((List UInt8)):={ ord:=[(5,[.l 0,.l 1,.l 2,.l 3,.l 4,.l 5,.l 7,.l 8,.l 9,.l 10,.l 11,.l 12,.l 13,.l 14,.l 15,.l 16,.h 6,.h 17,.l 18,.h 19,.l 20])] }
def aRI:List aP:=[qT,wG,jJ,aB0]
theorem aW3 (k:Nat) (x:Tr):eS (k+1) x=fx xt aRI qT Tryz.f37 aRD (aA Tryz.f37) k x:=(eS.eq_def ..).trans (by kernel_rfl)
theorem aTy (K:Nat):aE Tryz.prog aEb K∧aE Tryz.prog aB0 K∧aE Tryz.prog qT K:=by
 induction K using Nat.strongRecOn with
 | ind K ih=>exact ⟨aZ (X:=xt) (g:=aEb) (H:=aPs) (env:=aPP) (c:=aA Tryz.f39) aH mixed (fun k hk=>(aB.cons (aEq k) (aB.cons (pT k) (aB.cons (aMH k) (aB.cons (ih k hk).2.2 aB.nil))))) Tryz.func39 (by kernel_rfl) (by kernel_rfl) (by kernel_rfl) (aC.all aC.zero (by kernel_rfl) (by kernel_rfl)) (fun _=>rfl) aVB,aZ (X:=xt) (g:=aB0) (H:=aIu) (env:=aIk) (c:=aA Tryz.f73) aH mixed (fun k hk=>(aB.cons (ih k hk).1 (aB.cons (pT k) aB.nil))) Tryz.func73 (by kernel_rfl) (by kernel_rfl) (by kernel_rfl) (aC.all (aC.zero.succ aFx (by kernel_rfl) (fun _=>rfl) aQ2) (by kernel_rfl) (by kernel_rfl)) (fun _=>rfl) aVI,aZ (X:=xt) (g:=qT) (H:=aRD) (env:=aRI) (c:=aA Tryz.f37) aH mixed (fun k hk=>(aB.cons (ih k hk).2.2 (aB.cons (aEq k) (aB.cons (pT k) (aB.cons (ih k hk).2.1 aB.nil))))) Tryz.func37 (by kernel_rfl) (by kernel_rfl) (by kernel_rfl) (aC.all aC.zero (by kernel_rfl) (by kernel_rfl)) (fun _=>rfl) aW3⟩
theorem aIz (K:Nat):aE Tryz.prog qT K:=(aTy K).2.2
def vJ:aP:={ fid:=73,Γ:=[(.list false .tree)],args:=[(.var 0),(.fn 28 [] [])],Δ:=[.str],res:=(.var 0),f:=fun k x=>xH k x }
def sS:aP:={ fid:=35,Γ:=[.tree],args:=[(.var 0)],Δ:=[.str],res:=(.var 0),f:=fun k x=>fV k x }
def aBc:aP:={ fid:=28,Γ:=[.tree],args:=[(.var 0)],Δ:=[.str],res:=(.var 0),f:=fun k x=>cG k x }
def aCH:LH ((List UInt8)):={ Γ:=[(.list false .str),(.list false .tree),(.int .i64)],live:=[(1,(.fn 28 [] [])),(5,(.row 0 0)),(8,(.var 1)),(9,(.len 1)),(10,(.var 2))],sto:=[(0,(.list 9 0 none))],nk:=1,ad:=[.t 5 9 .str],F:=fun k x=>kY k x.1 x.2.1 x.2.2 }
def aFq:aF ((List UInt8)):={ loops:=[(3,aCH)] }
def aFB:List aP:=[aBc,jJ]
theorem aR2 (k:Nat) (x:(List Tr)):xH (k+1) x=fx xt aFB vJ Tryz.f73 aFq (aA Tryz.f73) k x:=(xH.eq_def ..).trans (by kernel_rfl)
theorem aNZ (k:Nat) (x:(List (List UInt8))×(List Tr)×Int):kY (k+1) x.1 x.2.1 x.2.2=gR xt aFB 23 0 aFq (aA Tryz.f73) (fJ xt.T Tryz.f73.results vJ) 0 aCH k x:=(kY.eq_def ..).trans (by kernel_rfl)
def aG4:LH ((List UInt8)):={ Γ:=[.tree,.str],live:=[(0,(.var 0)),(3,(.var 1))],F:=fun k x=>uA k x.1 x.2 }
def aKV:aF ((List UInt8)):={ ord:=[(5,[.l 0,.l 1,.l 2,.l 3,.l 4,.l 5,.l 6,.l 7,.l 8,.l 9,.h 10,.l 11,.h 12,.l 13]),(10,[.l 0,.l 1,.l 2,.l 3,.l 4,.l 5,.l 7,.l 8,.l 9,.l 10,.l 11,.l 12,.l 13,.h 6,.h 14,.l 15,.h 16,.l 17])],cuts:=[(10,aG4)] }
def aKB:List aP:=[sS,jJ,qT,vJ]
theorem aXk (k:Nat) (x:Tr):fV (k+1) x=fx xt aKB sS Tryz.f35 aKV (aA Tryz.f35) k x:=(fV.eq_def ..).trans (by kernel_rfl)
theorem aR0 (k:Nat) (x:Tr×(List UInt8)):uA (k+1) x.1 x.2=gR xt aKB 60 0 aKV (aA Tryz.f35) (fJ xt.T Tryz.f35.results sS) 0 aG4 k x:=(uA.eq_def ..).trans (by kernel_rfl)
def aOK:aF ((List UInt8)):={ ord:=[(4,[.l 0,.l 1,.l 2,.l 3,.l 4,.l 5,.l 6,.l 7,.l 8,.l 9,.l 11,.l 12,.l 13,.l 14,.l 15,.l 16,.h 10,.h 17,.l 18,.h 19,.l 20]),(5,[.l 0,.l 1,.l 2,.l 3,.l 4,.l 5,.l 6,.l 7,.l 8,.l 9,.h 10,.l 11,.h 12,.l 13]),(7,[.l 0,.l 1,.l 2,.l 3,.l 4,.l 5,.l 6,.l 7,.l 8,.l 9,.h 10,.l 11,.h 12,.l 13]),(9,[.l 0,.l 1,.l 2,.l 3,.l 4,.l 5,.l 6,.l 7,.h 8,.l 9,.h 10,.l 11]),(11,[.l 0,.l 1,.l 2,.l 3,.l 4,.l 5,.l 6,.l 7,.l 8,.l 9,.h 10,.l 11,.h 12,.l 13]),(13,[.l 0,.l 1,.l 2,.l 3,.l 4,.l 5,.l 6,.l 7,.l 8,.l 9,.h 10,.l 11,.h 12,.l 13]),(15,[.l 0,.l 1,.l 2,.l 3,.l 4,.l 5,.l 6,.l 7,.l 8,.l 9,.l 10,.l 11,.l 12,.l 13,.l 15,.l 16,.l 17,.l 18,.l 19,.l 20,.h 14,.h 21,.l 22,.h 23,.l 24])] }
def aPo:List aP:=[wG,aEp,jJ,wX,sS,qT]
theorem aVP (k:Nat) (x:Tr):cG (k+1) x=fx xt aPo aBc Tryz.f28 aOK (aA Tryz.f28) k x:=(cG.eq_def ..).trans (by kernel_rfl)
theorem aHE (K:Nat):aE Tryz.prog vJ K∧aE Tryz.prog sS K∧aE Tryz.prog aBc K:=by
 induction K using Nat.strongRecOn with
 | ind K ih=>exact ⟨aZ (X:=xt) (g:=vJ) (H:=aFq) (env:=aFB) (c:=aA Tryz.f73) aH mixed (fun k hk=>(aB.cons (ih k hk).2.2 (aB.cons (pT k) aB.nil))) Tryz.func73 (by kernel_rfl) (by kernel_rfl) (by kernel_rfl) (aC.all (aC.zero.succ aCH (by kernel_rfl) (fun _=>rfl) aNZ) (by kernel_rfl) (by kernel_rfl)) (fun _=>rfl) aR2,aZ (X:=xt) (g:=sS) (H:=aKV) (env:=aKB) (c:=aA Tryz.f35) aH mixed (fun k hk=>(aB.cons (ih k hk).2.1 (aB.cons (pT k) (aB.cons (aIz k) (aB.cons (ih k hk).1 aB.nil))))) Tryz.func35 (by kernel_rfl) (by kernel_rfl) (by kernel_rfl) (aC.all (aC.zero.succ aG4 (by kernel_rfl) (fun _=>rfl) aR0) (by kernel_rfl) (by kernel_rfl)) (fun _=>rfl) aXk,aZ (X:=xt) (g:=aBc) (H:=aOK) (env:=aPo) (c:=aA Tryz.f28) aH mixed (fun k hk=>(aB.cons (aEq k) (aB.cons (aVm k) (aB.cons (pT k) (aB.cons (aMH k) (aB.cons (ih k hk).2.1 (aB.cons (aIz k) aB.nil))))))) Tryz.func28 (by kernel_rfl) (by kernel_rfl) (by kernel_rfl) (aC.all aC.zero (by kernel_rfl) (by kernel_rfl)) (fun _=>rfl) aVP⟩
theorem aXg (K:Nat):aE Tryz.prog sS K:=(aHE K).2.1
theorem aVb (K:Nat):aE Tryz.prog aBc K:=(aHE K).2.2
def aPi:aP:={ fid:=10,Γ:=[.tree],args:=[(.var 0)],Δ:=[.str,(.int .i64)],res:=(.tup [(.var 0),(.var 1)]),f:=fun k x=>aIX k x }
def aXh:Shelf.Ren:=⟨fun n=>match n with | 169=>30 | 240=>60 | 276=>94 | _=>0,fun n=>match n with | 0=>0 | 3=>3 | 4=>4 | 5=>5 | 9=>9 | 20=>20 | 37=>55 | 70=>54 | 72=>57 | 75=>62 | 76=>63 | 80=>67 | 127=>96 | 164=>114 | _=>0,fun n=>n⟩
theorem bH7:Lays.n240 Tryz.prog aXh:=by
 constructor <;> first | kernel_rfl | (intro w; kernel_rfl)
theorem bA4:Lays.n169 Tryz.prog aXh:=by
 constructor <;> first | kernel_rfl | (intro w; kernel_rfl)
theorem aXn:Builder.Extra Tryz.prog aXh:=by
 refine { toX72:=?_,t5:=?_,a5:=?_,z5:=?_,v5:=?_,infoByte:=?_,cellsByte:=?_,sizeByte:=?_,neB5:=?_ } <;> first | kernel_rfl | (intro w; kernel_rfl) | decide | (constructor <;> kernel_rfl)
theorem bDH {ib:Nat} {p c1:AV} (hp:p=.lit (.pointer none)∨p=.ref ib 0):lO Tryz.prog 60 [.ref ib 0] [(ib,.row 57 2 [p,c1] 0)] (fun av s=>av=.tup []∧s=[(ib,.row 57 2 [.ref ib 0,c1] 0)]) :=
 bBS bH7 aXn.toX72 (by kernel_rfl) hp
theorem bHq {ib:Nat} {d:List UInt8} (h0:0<d.length) (hb:d.length≤140737488355328):lO Tryz.prog 27 [.ref ib 0,.s d] [(ib,.row 57 2 [.lit (.pointer none),.lit (.slice none 0 0)] 0)]
  (fun _ s=>∃ ig,s=[(ig,.row 5 1 (yQ d) 0),(ib,.row 57 2 [.ref ib 0,.row ig d.length] 0)]):=by
 refine aBI Tryz.func27 rfl rfl ?_
 refine kO ?_
 refine aEu [(0,.ref ib 0),(1,.s d)] (s':=[(ib,.row 57 2 [.lit (.pointer none),.lit (.slice none 0 0)] 0)]) (by kernel_rfl) rfl ?_
 refine mL ?_
 refine jW jF 2 [(0,.ref ib 0),(1,.s d)] rfl (by kernel_rfl) ?_
 refine nN rfl ?_
 refine kO ?_
 refine mL ?_
 refine jW jF 1 [(0,.ref ib 0),(1,.s d),(6,.ref ib 0)] rfl (by kernel_rfl) ?_
 refine aLE rfl rfl rfl (aFH (first:=[]) (caps:=[]) (xs:=[.ref ib 0]) (args':=[.ref ib 0]) (sm:=[(ib,.row 57 2 [.lit (.pointer none),.lit (.slice none 0 0)] 0)]) (r:=[]) rfl (by kernel_rfl) Tryz.func60 rfl rfl (bDH (.inl rfl)) (by kernel_rfl) (VW.refl _) (bAB [0] (by kernel_rfl))) ?_
 rintro _ _ ⟨_,⟨rfl,rfl⟩,rfl⟩
 refine nN rfl ?_
 refine kO ?_
 refine mL ?_
 refine jW jF 4 [(0,.ref ib 0),(1,.s d),(8,.ref ib 0),(11,.ref ib 1)] rfl (by kernel_rfl) ?_
 refine at_one rfl rfl rfl (aC4 (id:=ib) (off:=1) (j:=0) (av:=.lit (.slice none 0 0)) jF rfl rfl rfl rfl) ?_
 refine jW jF 6 [(1,.s d),(8,.ref ib 0),(12,.lit (.slice none 0 0)),(13,.s d)] rfl (by kernel_rfl) ?_
 refine aLE rfl rfl rfl (bBX (d:=d) jF rfl rfl rfl rfl rfl rfl rfl rfl h0 hb) ?_
 rintro _ _ ⟨ig,rfl,rfl⟩
 refine jW jF 9 [(1,.s d),(14,.row ig d.length),(16,.ref ib 1)] rfl (by kernel_rfl) ?_
 refine at_one rfl rfl rfl (aEc (id:=ib) (off:=1) (j:=1) (ds:=[.row ig d.length]) jF rfl rfl rfl rfl rfl) ?_
 refine nN rfl ?_
 refine kO ?_
 refine mL ?_
 refine jW jF 4 [(4,.i ((d.length:Nat):Int)),(5,.lit .nilIface)] rfl (by kernel_rfl) ?_
 refine nN rfl ?_
 refine aLo ?_
 exact ⟨(.tup [.i ((d.length:Nat):Int),.lit .nilIface]),(.tup [.i ((d.length:Nat):Int),.lit .nilIface]),_,(aFQ (by kernel_rfl)),(eM.refl _),⟨_,vO _ [0,1],List.take_sublist 2 _⟩,ig,rfl⟩
theorem bH9 {ib ig:Nat} {l d:List UInt8} (hl:0<l.length) (h0:0<d.length) (hb:l.length+d.length≤140737488355328):lO Tryz.prog 27 [.ref ib 0,.s d] [(ig,.row 5 1 (yQ l) 0),(ib,.row 57 2 [.ref ib 0,.row ig l.length] 0)]
  (fun _ s=>∃ ig',s=[(ig',.row 5 1 (yQ (l++d)) 0),(ib,.row 57 2 [.ref ib 0,.row ig' (l.length+d.length)] 0)]):=by
 refine aBI Tryz.func27 rfl rfl ?_
 refine kO ?_
 refine aEu [(0,.ref ib 0),(1,.s d)] (s':=[(ig,.row 5 1 (yQ l) 0),(ib,.row 57 2 [.ref ib 0,.row ig l.length] 0)]) (by kernel_rfl) rfl ?_
 refine mL ?_
 refine jW jF 2 [(0,.ref ib 0),(1,.s d)] rfl (by kernel_rfl) ?_
 refine nN rfl ?_
 refine kO ?_
 refine mL ?_
 refine jW jF 1 [(0,.ref ib 0),(1,.s d),(6,.ref ib 0)] rfl (by kernel_rfl) ?_
 refine aLE rfl rfl rfl (aFH (first:=[]) (caps:=[]) (xs:=[.ref ib 0]) (args':=[.ref ib 0]) (sm:=[(ib,.row 57 2 [.ref ib 0,.row ig l.length] 0)]) (r:=[(ig,.row 5 1 (yQ l) 0)]) rfl (by kernel_rfl) Tryz.func60 rfl rfl (bDH (.inr rfl)) (by kernel_rfl) (VW.refl _) (bAB [1,0] (by kernel_rfl))) ?_
 rintro _ _ ⟨_,⟨rfl,rfl⟩,rfl⟩
 refine nN rfl ?_
 refine kO ?_
 refine mL ?_
 refine jW jF 4 [(0,.ref ib 0),(1,.s d),(8,.ref ib 0),(11,.ref ib 1)] rfl (by kernel_rfl) ?_
 refine at_one rfl rfl rfl (aC4 (id:=ib) (off:=1) (j:=0) (av:=.row ig l.length) jF rfl rfl rfl rfl) ?_
 refine jW jF 6 [(1,.s d),(8,.ref ib 0),(12,.row ig l.length),(13,.s d)] rfl (by kernel_rfl) ?_
 refine aLE rfl rfl rfl (bCl (d:=d) (l:=l) (j:=1) (id:=ig) jF rfl rfl rfl rfl rfl rfl rfl hl rfl rfl h0 hb) ?_
 rintro _ _ ⟨ig',rfl,rfl⟩
 refine jW jF 9 [(1,.s d),(14,.row ig' (l.length+d.length)),(16,.ref ib 1)] rfl (by kernel_rfl) ?_
 refine at_one rfl rfl rfl (aEc (id:=ib) (off:=1) (j:=1) (ds:=[.row ig' (l.length+d.length)]) jF rfl rfl rfl rfl rfl) ?_
 refine nN rfl ?_
 refine kO ?_
 refine mL ?_
 refine jW jF 4 [(4,.i ((d.length:Nat):Int)),(5,.lit .nilIface)] rfl (by kernel_rfl) ?_
 refine nN rfl ?_
 refine aLo ?_
 exact ⟨(.tup [.i ((d.length:Nat):Int),.lit .nilIface]),(.tup [.i ((d.length:Nat):Int),.lit .nilIface]),_,(aFQ (by kernel_rfl)),(eM.refl _),⟨_,vO _ [0,1],List.take_sublist 2 _⟩,ig',rfl⟩
theorem bGN {ib:Nat} {p:AV}:lO Tryz.prog 29 [.ref ib 0] [(ib,.row 57 2 [p,.lit (.slice none 0 0)] 0)] (fun av s=>av=.i 0∧s=[(ib,.row 57 2 [p,.lit (.slice none 0 0)] 0)]):=by
 refine aBI Tryz.func29 rfl rfl ?_
 refine kO ?_
 refine aEu [(0,.ref ib 0)] (s':=[(ib,.row 57 2 [p,.lit (.slice none 0 0)] 0)]) (by kernel_rfl) rfl ?_
 refine mL ?_
 refine jW jF 1 [(0,.ref ib 0)] rfl (by kernel_rfl) ?_
 refine nN rfl ?_
 refine kO ?_
 refine mL ?_
 refine jW jF 3 [(5,.ref ib 1)] rfl (by kernel_rfl) ?_
 refine at_one rfl rfl rfl (aC4 (id:=ib) (off:=1) (j:=0) (av:=.lit (.slice none 0 0)) jF rfl rfl rfl rfl) ?_
 refine jW jF 6 [(2,.i 0)] rfl (by kernel_rfl) ?_
 refine nN rfl ?_
 refine aLo ?_
 exact ⟨.i 0,.i 0,_,(aFQ (by kernel_rfl)),(eM.refl _),⟨_,vO _ [0],List.take_sublist 1 _⟩,rfl,rfl⟩
theorem bHy {ib ig n:Nat} {p:AV} {c:Ob}:lO Tryz.prog 29 [.ref ib 0] [(ig,c),(ib,.row 57 2 [p,.row ig n] 0)] (fun av s=>av=.i (n:Int)∧s=[(ig,c),(ib,.row 57 2 [p,.row ig n] 0)]):=by
 refine aBI Tryz.func29 rfl rfl ?_
 refine kO ?_
 refine aEu [(0,.ref ib 0)] (s':=[(ig,c),(ib,.row 57 2 [p,.row ig n] 0)]) (by kernel_rfl) rfl ?_
 refine mL ?_
 refine jW jF 1 [(0,.ref ib 0)] rfl (by kernel_rfl) ?_
 refine nN rfl ?_
 refine kO ?_
 refine mL ?_
 refine jW jF 3 [(5,.ref ib 1)] rfl (by kernel_rfl) ?_
 refine at_one rfl rfl rfl (aC4 (id:=ib) (off:=1) (j:=1) (av:=.row ig n) jF rfl rfl rfl rfl) ?_
 refine jW jF 6 [(2,.i (n:Int))] rfl (by kernel_rfl) ?_
 refine nN rfl ?_
 refine aLo ?_
 exact ⟨.i (n:Int),.i (n:Int),_,(aFQ (by kernel_rfl)),(eM.refl _),⟨_,vO _ [0,1],List.take_sublist 2 _⟩,rfl,rfl⟩
def aO3 (ib ig:Nat) (l:List UInt8):aN:=if l=[] then [(ib,.row 57 2 [.lit (.pointer none),.lit (.slice none 0 0)] 0)] else [(ig,.row 5 1 (yQ l) 0),(ib,.row 57 2 [.ref ib 0,.row ig l.length] 0)]
theorem bI8 {ib ig:Nat} {l d:List UInt8} (h0:0<d.length) (hb:l.length+d.length≤140737488355328):lO Tryz.prog 27 [.ref ib 0,.s d] (aO3 ib ig l) (fun _ s=>∃ ig',s=aO3 ib ig' (l++d)):=by
 have hd:d≠[]:=fun e=>by rw [e] at h0; exact absurd h0 (by decide)
 unfold aO3
 by_cases hl:l=[]
 ·subst hl
  rw [if_pos rfl]
  refine (bHq h0 (by simpa using hb)).mono ?_
  rintro av s ⟨ig',rfl⟩
  exact ⟨ig',by rw [List.nil_append,if_neg hd]⟩
 ·rw [if_neg hl]
  refine (bH9 (List.length_pos_iff.2 hl) h0 hb).mono ?_
  rintro av s ⟨ig',rfl⟩
  exact ⟨ig',by rw [if_neg (by simp [hd]),List.length_append]⟩
theorem bI9 {ib ig:Nat} {l:List UInt8}:lO Tryz.prog 29 [.ref ib 0] (aO3 ib ig l) (fun av s=>av=.i ((l.length:Nat):Int)∧s=aO3 ib ig l):=by
 unfold aO3
 by_cases hl:l=[]
 ·subst hl
  rw [if_pos rfl]
  exact bGN
 ·rw [if_neg hl]
  exact bHy
theorem bJu {ib ig:Nat} {l:List UInt8}:lO Tryz.prog 30 [.ref ib 0] (aO3 ib ig l) (fun av s=>av=.s l∧s=[]):=by
 unfold aO3
 by_cases hl:l=[]
 ·subst hl
  rw [if_pos rfl]
  exact aX2 bA4 aXn
 ·rw [if_neg hl]
  refine ((aY0 (ib:=ib) (ig:=ig) (p:=.ref ib 0) bA4 aXn hl).frame (r:=[]) (List.Perm.swap _ _ _)).mono ?_
  rintro av s ⟨_,⟨rfl,rfl⟩,rfl⟩
  exact ⟨rfl,rfl⟩
theorem aR1 (K:Nat) (hsh:∀ t e,aIn K t=some e→lO Tryz.prog 26 [.tree t] [] (fun av s=>av=.i e∧s=[]))
  (hdc:∀ k t v,cG k t=some v→lO Tryz.prog 28 [.tree t] [] (fun av s=>av=.s v∧s=[])) (p0:Tr) (r:List UInt8×Int) (h:aIX K p0=some r):lO Tryz.prog 10 [.tree p0] [] (fun av s=>av=.tup [.s r.1,.i r.2]∧s=[]):=by
 unfold aIX at h
 obtain ⟨e,he,h⟩:=aM h
 refine aBI Tryz.func10 rfl rfl ?_
 refine kO ?_
 refine aEu [(0,.tree p0)] (s':=[]) (by kernel_rfl) rfl ?_
 refine mL ?_
 refine jW jF 2 [(0,.tree p0),(2,.s []),(3,.i 0)] rfl (by kernel_rfl) ?_
 refine nN rfl ?_
 refine kO ?_
 refine kO ?_
 refine mL ?_
 refine jW jF 1 [(0,.tree p0),(8,.tree p0)] rfl (by kernel_rfl) ?_
 refine aLE rfl rfl rfl (aFH (first:=[]) (caps:=[]) (xs:=[.tree p0]) (args':=[.tree p0]) (sm:=[]) (r:=[]) rfl (by kernel_rfl) Tryz.func26 rfl rfl (hsh p0 e he) (by kernel_rfl) (VW.refl _) (bAB [] (by kernel_rfl))) ?_
 rintro _ _ ⟨_,⟨rfl,rfl⟩,rfl⟩
 refine jW jF 3 [(0,.tree p0),(4,.i e)] rfl (by kernel_rfl) ?_
 refine nN rfl ?_
 refine kO ?_
 refine mL ?_
 refine jW jF 2 [(0,.tree p0),(4,.i e),(11,.b (!decide (e=0)))] rfl (by kernel_rfl) ?_
 refine nN rfl ?_
 refine aO7 (!decide (e=0)) rfl (fun hb=>?_) (fun hb=>?_)
 ·have he0:¬ e=0:=by simpa using hb
  rw [if_neg he0] at h
  obtain rfl:=Option.some.inj h
  refine kO ?_
  refine mL ?_
  refine jW jF 3 [(2,.s []),(3,.i e)] rfl (by kernel_rfl) ?_
  refine nN rfl ?_
  refine aLo ?_
  exact ⟨.tup [.s [],.i e],.tup [.s [],.i e],_,(aFQ (by kernel_rfl)),(eM.refl _),⟨_,vO _ [],List.take_sublist 0 _⟩,rfl,rfl⟩
 ·have he0:e=0:=by simpa using hb
  rw [if_pos he0] at h
  refine aSy ?_
  cases p0 with
  | nil=>cases h
  | node n1 n2 n3 n4 ks =>
  obtain ⟨s,hs,h⟩:=aM h
  refine kO ?_
  refine mL ?_
  refine aLE rfl rfl rfl (aWc (zs:=[(.pointer none),(.slice none 0 0)]) jF rfl rfl rfl) ?_
  rintro _ _ ⟨ib,rfl,rfl⟩
  refine nN rfl ?_
  refine kO ?_
  refine kO ?_
  refine aEu [(0,.tree (.node n1 n2 n3 n4 ks)),(5,.ref ib 0)] (s':=aO3 ib 0 []) (by kernel_rfl) rfl ?_
  refine mL ?_
  refine jW jF 6 [(5,.ref ib 0),(16,.slc (ks.map AV.tree) ks.length false),(17,.i ((ks.length:Nat):Int)),(18,.i 0)] rfl (by kernel_rfl) ?_
  refine nN rfl ?_
  refine aUA ?_
  refine aXm (X:=List UInt8×Int×Nat) (fun k' x=>aCX k' ks x.1 x.2.1=some s) (fun x=>[(5,.ref ib 0),(16,.slc (ks.map AV.tree) ks.length false),(17,.i ((ks.length:Nat):Int)),(18,.i x.2.1)]) (fun x=>aO3 ib x.2.2 x.1) (fun x hx=>by cases hx) ?_ K ([],0,0) hs (by kernel_rfl) rfl
  clear hs
  rintro k9 ⟨acc,i,ig⟩ hs
  simp only at hs
  refine kO ?_
  refine mL ?_
  refine jW jF 1 [(5,.ref ib 0),(16,.slc (ks.map AV.tree) ks.length false),(17,.i ((ks.length:Nat):Int)),(18,.i i),(19,.b (decide (i<((ks.length:Nat):Int))))] rfl (by kernel_rfl) ?_
  refine nN rfl ?_
  refine kO ?_
  unfold aCX at hs
  refine aO7 (decide (i<((ks.length:Nat):Int))) rfl (fun hb10=>?_) (fun hb10=>?_)
  ·rw [hb10] at hs
   obtain ⟨t,ht,hs⟩:=aM hs
   obtain ⟨v,hv,hs⟩:=aM hs
   by_cases hsz:acc.length+(v.length+1)≤140737488355328
   ·rw [if_pos hsz] at hs
    refine aSy ?_
    refine kO ?_
    refine aUA ?_
    refine kO ?_
    refine mL ?_
    refine at_one rfl rfl rfl (bDi (k:=.i64) (g:=AV.tree) (l:=ks) (fu:=false) (j:=i) (v:=t) jF rfl rfl rfl rfl rfl ht) ?_
    refine jW jF 3 [(5,.ref ib 0),(7,.tree t),(16,.slc (ks.map AV.tree) ks.length false),(17,.i ((ks.length:Nat):Int)),(18,.i i)] rfl (by kernel_rfl) ?_
    refine nN rfl ?_
    refine mL ?_
    refine jW jF 1 [(5,.ref ib 0),(16,.slc (ks.map AV.tree) ks.length false),(17,.i ((ks.length:Nat):Int)),(18,.i i),(22,.tree t)] rfl (by kernel_rfl) ?_
    refine aLE rfl rfl rfl (aFH (first:=[]) (caps:=[]) (xs:=[.tree t]) (args':=[.tree t]) (sm:=[]) (r:=aO3 ib ig acc) rfl (by kernel_rfl) Tryz.func28 rfl rfl (hdc _ _ v hv) (by kernel_rfl) (VW.refl _) (List.Perm.refl _)) ?_
    rintro _ _ ⟨_,⟨rfl,rfl⟩,rfl⟩
    refine at_one rfl rfl rfl (bBu (l:=v) (r:=[10]) (v:=v++[10]) (by unfold catS; rw [if_pos (by simp; omega)]) rfl rfl rfl) ?_
    refine aLE rfl rfl rfl (aFH (first:=[]) (caps:=[]) (xs:=[.ref ib 0,.s (v++[10])]) (args':=[.ref ib 0,.s (v++[10])]) (sm:=aO3 ib ig acc) (r:=[]) rfl (by kernel_rfl) Tryz.func27 rfl rfl (bI8 (by simp) (by simp; omega)) (by kernel_rfl) (VW.refl _) (by simp)) ?_
    rintro _ _ ⟨_,⟨ig',rfl⟩,rfl⟩
    refine nN rfl ?_
    refine mL ?_
    refine jW jF 2 [(5,.ref ib 0),(16,.slc (ks.map AV.tree) ks.length false),(17,.i ((ks.length:Nat):Int)),(18,.i (IntKind.i64.wrap (i+1)))] rfl (by kernel_rfl) ?_
    refine nN rfl ?_
    exact ⟨k9,(acc++(v++[10]),IntKind.i64.wrap (i+1),ig'),[],[],Nat.le_refl _,hs,by kernel_rfl,rfl⟩
   ·rw [if_neg hsz] at hs; cases hs
  ·have hb11:decide (i<((ks.length:Nat):Int))=false:=by simpa using hb10
   rw [hb11] at hs
   obtain rfl:=Option.some.inj hs
   refine bAO ?_
   refine kO ?_
   refine kO ?_
   refine mL ?_
   refine aLE rfl rfl rfl (aFH (first:=[]) (caps:=[]) (xs:=[.ref ib 0]) (args':=[.ref ib 0]) (sm:=aO3 ib ig acc) (r:=[]) rfl (by kernel_rfl) Tryz.func29 rfl rfl bI9 (by kernel_rfl) (VW.refl _) (by simp)) ?_
   rintro _ _ ⟨_,⟨rfl,rfl⟩,rfl⟩
   refine jW jF 2 [(5,.ref ib 0),(28,.b (decide (16384<((acc.length:Nat):Int))))] rfl (by kernel_rfl) ?_
   refine nN rfl ?_
   refine aO7 (decide (16384<((acc.length:Nat):Int))) rfl (fun hb12=>?_) (fun hb12=>?_)
   ·have hl:16384<acc.length:=by have:=of_decide_eq_true hb12; omega
    rw [if_pos hl] at h
    obtain rfl:=Option.some.inj h
    refine kO ?_
    refine mL ?_
    refine jW jF 2 [(2,.s []),(3,.i 3)] rfl (by kernel_rfl) ?_
    refine nN rfl ?_
    refine aLo ?_
    exact ⟨.tup [.s [],.i 3],.tup [.s [],.i 3],_,(aFQ (by kernel_rfl)),(eM.refl _),⟨_,vO _ [],List.take_sublist 0 _⟩,rfl,rfl⟩
   ·have hl:¬ 16384<acc.length:=by have:=of_decide_eq_false hb12; omega
    rw [if_neg hl] at h
    obtain rfl:=Option.some.inj h
    refine aSy ?_
    refine kO ?_
    refine mL ?_
    refine aLE rfl rfl rfl (aFH (first:=[]) (caps:=[]) (xs:=[.ref ib 0]) (args':=[.ref ib 0]) (sm:=aO3 ib ig acc) (r:=[]) rfl (by kernel_rfl) Tryz.func30 rfl rfl bJu (by kernel_rfl) (VW.refl _) (by simp)) ?_
    rintro _ _ ⟨_,⟨rfl,rfl⟩,rfl⟩
    refine jW jF 3 [(2,.s acc),(3,.i 0)] rfl (by kernel_rfl) ?_
    refine nN rfl ?_
    refine aLo ?_
    exact ⟨.tup [.s acc,.i 0],.tup [.s acc,.i 0],_,(aFQ (by kernel_rfl)),(eM.refl _),⟨_,vO _ [],List.take_sublist 0 _⟩,rfl,rfl⟩
theorem aVv (K:Nat):aE Tryz.prog aPi K:=⟨⟨_,Tryz.func10,by kernel_rfl,by kernel_rfl⟩,fun ids x y hy=>by
 refine (aR1 K (fun t e h=>((aVp K).ok (fun _=>0) t e h).mono (by rintro av s ⟨ids',_,rfl,rfl⟩; exact ⟨rfl,rfl⟩)) (fun k t v h=>((aVb k).ok (fun _=>0) t v h).mono (by rintro av s ⟨ids',_,rfl,rfl⟩; exact ⟨rfl,rfl⟩)) x y hy).mono ?_
 rintro av s ⟨rfl,rfl⟩
 exact ⟨ids,fun _ _=>rfl,rfl,rfl⟩⟩
def aCO:aP:={ fid:=19,Γ:=[.str],args:=[(.var 0)],Δ:=[.str,(.int .i64),(.int .i64)],res:=(.tup [(.var 0),(.var 1),(.var 2)]),f:=fun k x=>aKG k x }
def aM9:aF ((List UInt8)×Int×Int):={}
def aM1:List aP:=[zC,aPi]
theorem aUe (k:Nat) (x:(List UInt8)):aKG k x=fx xt aM1 aCO Tryz.f19 aM9 (aA Tryz.f19) k x:=by kernel_rfl
theorem aUK (K:Nat):aE Tryz.prog aCO K:=aG (X:=xt) (g:=aCO) (H:=aM9) (env:=aM1) (c:=aA Tryz.f19) aH mixed (fun k=>(aB.cons (aUn k) (aB.cons (aVv k) aB.nil))) Tryz.func19 (by kernel_rfl) (by kernel_rfl) (by kernel_rfl) (aC.all aC.zero (by kernel_rfl) (by kernel_rfl)) aUe K
def aCR:aP:={ fid:=12,Γ:=[],args:=[],Δ:=[.bool],res:=(.var 0),f:=fun k _=>qY k }
def aNd:aF (Bool):={}
def aM0:List aP:=[aCO]
theorem aTd (k:Nat) (x:Unit):qY k=fx xt aM0 aCR Tryz.f12 aNd (aA Tryz.f12) k x:=by kernel_rfl
theorem aSZ (K:Nat):aE Tryz.prog aCR K:=aG (X:=xt) (g:=aCR) (H:=aNd) (env:=aM0) (c:=aA Tryz.f12) aH mixed (fun k=>(aB.cons (aUK k) aB.nil)) Tryz.func12 (by kernel_rfl) (by kernel_rfl) (by kernel_rfl) (aC.all aC.zero (by kernel_rfl) (by kernel_rfl)) aTd K
def pK:aP:={ fid:=45,Γ:=[(.list false .tree),(.list false .tree)],args:=[(.var 0),(.var 1),(.fn 20 [] [])],Δ:=[.bool],res:=(.var 0),f:=fun k x=>rZ k x.1 x.2 }
def wW:aP:={ fid:=20,Γ:=[.tree,.tree],args:=[(.var 0),(.var 1)],Δ:=[.bool],res:=(.var 0),f:=fun k x=>qZ k x.1 x.2 }
def wB:LH (Bool):={ Γ:=[(.list false .tree),(.list false .tree),(.int .i64)],live:=[(1,(.var 0)),(2,(.fn 20 [] [])),(15,(.var 1)),(16,(.len 1)),(17,(.var 2))],F:=fun k x=>fW k x.1 x.2.1 x.2.2 }
def aAx:aF (Bool):={ loops:=[(4,wB)] }
def aAu:List aP:=[wW]
theorem aL8 (k:Nat) (x:(List Tr)×(List Tr)):rZ (k+1) x.1 x.2=fx xt aAu pK Tryz.f45 aAx (aA Tryz.f45) k x:=(rZ.eq_def ..).trans (by kernel_rfl)
theorem aIR (k:Nat) (x:(List Tr)×(List Tr)×Int):fW (k+1) x.1 x.2.1 x.2.2=gR xt aAu 32 0 aAx (aA Tryz.f45) (fJ xt.T Tryz.f45.results pK) 0 wB k x:=(fW.eq_def ..).trans (by kernel_rfl)
def aOV:aF (Bool):={ ord:=[(3,[.l 0,.l 1,.l 2,.l 3,.l 4,.l 5,.l 6,.l 7,.l 8,.l 9,.l 10,.l 11,.l 12,.l 13,.l 14,.l 15,.l 16,.l 17,.l 18,.l 19,.l 20,.l 21,.l 22,.l 23,.l 24,.l 25,.l 26,.l 27,.l 28,.l 29,.l 30,.l 31,.l 32,.l 33,.l 34,.l 35,.l 36,.l 37,.l 38,.l 39,.l 40,.l 41,.l 42,.l 43,.l 44,.l 45,.l 46,.l 47,.l 48,.l 49,.l 50,.h 51,.l 52,.l 53])] }
def aPF:List aP:=[pK]
theorem aVe (k:Nat) (x:Tr×Tr):qZ (k+1) x.1 x.2=fx xt aPF wW Tryz.f20 aOV (aA Tryz.f20) k x:=(qZ.eq_def ..).trans (by kernel_rfl)
theorem aLF (K:Nat):aE Tryz.prog pK K∧aE Tryz.prog wW K:=by
 induction K using Nat.strongRecOn with
 | ind K ih=>exact ⟨aZ (X:=xt) (g:=pK) (H:=aAx) (env:=aAu) (c:=aA Tryz.f45) aH mixed (fun k hk=>(aB.cons (ih k hk).2 aB.nil)) Tryz.func45 (by kernel_rfl) (by kernel_rfl) (by kernel_rfl) (aC.all (aC.zero.succ wB (by kernel_rfl) (fun _=>rfl) aIR) (by kernel_rfl) (by kernel_rfl)) (fun _=>rfl) aL8,aZ (X:=xt) (g:=wW) (H:=aOV) (env:=aPF) (c:=aA Tryz.f20) aH mixed (fun k hk=>(aB.cons (ih k hk).1 aB.nil)) Tryz.func20 (by kernel_rfl) (by kernel_rfl) (by kernel_rfl) (aC.all aC.zero (by kernel_rfl) (by kernel_rfl)) (fun _=>rfl) aVe⟩
theorem aVK (K:Nat):aE Tryz.prog wW K:=(aLF K).2
def zA:aP:={ fid:=9,Γ:=[(.list false (.pair (.int .i64) (.pair (.int .i64) (.pair .str (.pair .str (.list false (.int .i64)))))))],args:=[(.agg [(.var 0)])],Δ:=[(.list false (.pair (.int .i64) (.pair (.int .i64) (.pair .str (.pair .str (.list false (.int .i64)))))))],res:=(.agg [(.var 0)]),f:=fun k x=>aDp k x }
def aDw:LH ((List (Int×Int×(List UInt8)×(List UInt8)×(List Int)))):={ Γ:=[(.list false (.pair (.int .i64) (.pair (.int .i64) (.pair .str (.pair .str (.list false (.int .i64))))))),(.int .i64),(.list false (.pair (.int .i64) (.pair (.int .i64) (.pair .str (.pair .str (.list false (.int .i64)))))))],live:=[(1,(.ptr [(.var 0)])),(2,(.ref 0 0)),(3,(.ref 1 0)),(4,(.var 1))],sto:=[(0,(.cells 24 1 [.nils] false)),(1,(.cells 24 1 [(.row 2 2)] false)),(2,(.list 51 2 none))],nk:=3,ad:=[.c 3 0 51 (.pair (.int .i64) (.pair (.int .i64) (.pair .str (.pair .str (.list false (.int .i64))))))],F:=fun k x=>mN k x.1 x.2.1 x.2.2 }
def aGZ:aF ((List (Int×Int×(List UInt8)×(List UInt8)×(List Int)))):={ ord:=[(6,[.l 0,.l 1,.l 2,.l 3,.l 4,.l 5,.l 6,.l 7,.l 8,.l 9,.l 10,.l 11,.l 12,.l 13,.l 14,.h 15,.l 16,.h 17])],loops:=[(3,aDw)] }
def aHi:List aP:=[]
theorem aT4 (k:Nat) (x:(List (Int×Int×(List UInt8)×(List UInt8)×(List Int)))):aDp k x=fx xt aHi zA Tryz.f9 aGZ (aA Tryz.f9) k x:=by kernel_rfl
theorem aPN (k:Nat) (x:(List (Int×Int×(List UInt8)×(List UInt8)×(List Int)))×Int×(List (Int×Int×(List UInt8)×(List UInt8)×(List Int)))):mN (k+1) x.1 x.2.1 x.2.2=gR xt aHi 55 0 aGZ (aA Tryz.f9) (fJ xt.T Tryz.f9.results zA) 0 aDw k x:=(mN.eq_def ..).trans (by kernel_rfl)
theorem aUR (K:Nat):aE Tryz.prog zA K:=aG (X:=xt) (g:=zA) (H:=aGZ) (env:=aHi) (c:=aA Tryz.f9) aH mixed (fun k=>aB.nil) Tryz.func9 (by kernel_rfl) (by kernel_rfl) (by kernel_rfl) (aC.all (aC.zero.succ aDw (by kernel_rfl) (fun _=>rfl) aPN) (by kernel_rfl) (by kernel_rfl)) aT4 K
def sB:aP:={ fid:=78,Γ:=[(.list false .bool),.bool],args:=[(.var 0),(.var 1)],Δ:=[(.int .i64)],res:=(.var 0),f:=fun k x=>aBS k x.1 x.2 }
def aAo:LH (Int):={ Γ:=[(.list false .bool),.bool,(.int .i64)],live:=[(0,(.var 0)),(1,(.var 1)),(7,(.len 0)),(8,(.var 2))],F:=fun k x=>hG k x.1 x.2.1 x.2.2 }
def aCp:aF (Int):={ loops:=[(2,aAo)] }
def aCC:List aP:=[]
theorem aOT (k:Nat) (x:(List Bool)×Bool):aBS k x.1 x.2=fx xt aCC sB Tryz.f78 aCp (aA Tryz.f78) k x:=by kernel_rfl
theorem aKq (k:Nat) (x:(List Bool)×Bool×Int):hG (k+1) x.1 x.2.1 x.2.2=gR xt aCC 19 0 aCp (aA Tryz.f78) (fJ xt.T Tryz.f78.results sB) 0 aAo k x:=(hG.eq_def ..).trans (by kernel_rfl)
theorem aPC (K:Nat):aE Tryz.prog sB K:=aG (X:=xt) (g:=sB) (H:=aCp) (env:=aCC) (c:=aA Tryz.f78) aH mixed (fun k=>aB.nil) Tryz.func78 (by kernel_rfl) (by kernel_rfl) (by kernel_rfl) (aC.all (aC.zero.succ aAo (by kernel_rfl) (fun _=>rfl) aKq) (by kernel_rfl) (by kernel_rfl)) aOT K
def rS:aP:={ fid:=46,Γ:=[(.list false .bool),.bool],args:=[(.var 0),(.var 1)],Δ:=[.bool],res:=(.var 0),f:=fun k x=>qF k x.1 x.2 }
def aD7:aF (Bool):={}
def aDR:List aP:=[sB]
theorem aLc (k:Nat) (x:(List Bool)×Bool):qF k x.1 x.2=fx xt aDR rS Tryz.f46 aD7 (aA Tryz.f46) k x:=by kernel_rfl
theorem aLl (K:Nat):aE Tryz.prog rS K:=aG (X:=xt) (g:=rS) (H:=aD7) (env:=aDR) (c:=aA Tryz.f46) aH mixed (fun k=>(aB.cons (aPC k) aB.nil)) Tryz.func46 (by kernel_rfl) (by kernel_rfl) (by kernel_rfl) (aC.all aC.zero (by kernel_rfl) (by kernel_rfl)) aLc K
def xI:aP:={ fid:=21,Γ:=[(.list false (.pair (.int .i64) (.pair (.int .i64) (.pair .str (.pair .str (.list false (.int .i64)))))))],args:=[(.agg [(.var 0)])],Δ:=[.tree,(.int .i64)],res:=(.tup [(.var 0),(.var 1)]),f:=fun k x=>aFG k x }
def aES:LH (Tr×Int):={ Γ:=[(.list false (.pair (.int .i64) (.pair (.int .i64) (.pair .str (.pair .str (.list false (.int .i64))))))),(.list false .tree),(.list false .bool),(.int .i64)],live:=[(4,(.var 0)),(5,(.row 0 1)),(6,(.row 1 2)),(29,(.var 0)),(30,(.len 0)),(31,(.var 3))],sto:=[(0,(.list 25 1 none)),(1,(.list 4 2 none))],nk:=2,F:=fun k x=>oL k x.1 x.2.1 x.2.2.1 x.2.2.2 }
def aFI:LH (Tr×Int):={ Γ:=[(.list false (.pair (.int .i64) (.pair (.int .i64) (.pair .str (.pair .str (.list false (.int .i64))))))),(.list false .tree),(.list false .bool),(.int .i64),(.int .i64),(.list false (.int .i64)),(.int .i64),(.int .i64),(.int .i64),.str,.str,(.list false .tree)],live:=[(4,(.var 0)),(5,(.row 0 1)),(6,(.row 1 2)),(7,(.var 3)),(9,(.ref 2 0)),(29,(.var 0)),(30,(.len 0)),(31,(.var 4)),(47,(.var 5)),(48,(.len 5)),(49,(.var 6))],sto:=[(0,(.list 25 1 none)),(1,(.list 4 2 none)),(2,(.cells 60 5 [(.var 7),(.var 8),(.var 9),(.var 10),(.row 3 11)] false)),(3,(.list 25 11 none))],nk:=4,ad:=[.c 9 4 25 .tree],F:=fun k x=>oQ k x.1 x.2.1 x.2.2.1 x.2.2.2.1 x.2.2.2.2.1 x.2.2.2.2.2.1 x.2.2.2.2.2.2.1 x.2.2.2.2.2.2.2.1 x.2.2.2.2.2.2.2.2.1 x.2.2.2.2.2.2.2.2.2.1 x.2.2.2.2.2.2.2.2.2.2.1 x.2.2.2.2.2.2.2.2.2.2.2 }
def aEl:aF (Tr×Int):={ ord:=[(18,[.l 0,.l 1,.l 2,.l 3,.l 4,.l 5,.l 6,.l 7,.l 8,.l 9,.h 10,.l 11,.l 12,.h 13])],loops:=[(9,aES),(13,aFI)],adr:=[(23,[.f 6])] }
def aEd:List aP:=[rS]
def aBC:XT:={ xt with objs:=[24,60]++xt.objs }
theorem aVc (k:Nat) (x:(List (Int×Int×(List UInt8)×(List UInt8)×(List Int)))):aFG k x=fx aBC aEd xI Tryz.f21 aEl (aA Tryz.f21) k x:=by kernel_rfl
theorem aQj (k:Nat) (x:(List (Int×Int×(List UInt8)×(List UInt8)×(List Int)))×(List Tr)×(List Bool)×Int):oL (k+1) x.1 x.2.1 x.2.2.1 x.2.2.2=gR aBC aEd 99 0 aEl (aA Tryz.f21) (fJ xt.T Tryz.f21.results xI) 0 aES k x:=(oL.eq_def ..).trans (by kernel_rfl)
theorem aP5 (k:Nat) (x:(List (Int×Int×(List UInt8)×(List UInt8)×(List Int)))×(List Tr)×(List Bool)×Int×Int×(List Int)×Int×Int×Int×(List UInt8)×(List UInt8)×(List Tr)):oQ (k+1) x.1 x.2.1 x.2.2.1 x.2.2.2.1 x.2.2.2.2.1 x.2.2.2.2.2.1 x.2.2.2.2.2.2.1 x.2.2.2.2.2.2.2.1 x.2.2.2.2.2.2.2.2.1 x.2.2.2.2.2.2.2.2.2.1 x.2.2.2.2.2.2.2.2.2.2.1 x.2.2.2.2.2.2.2.2.2.2.2=gR aBC aEd 99 0 aEl (aA Tryz.f21) (fJ xt.T Tryz.f21.results xI) 1 aFI k x:=(oQ.eq_def ..).trans (by kernel_rfl)
theorem aVM (K:Nat):aE Tryz.prog xI K:=aG (X:=aBC) (g:=xI) (H:=aEl) (env:=aEd) (c:=aA Tryz.f21) (show XOk Tryz.prog aBC from ⟨jF,aH.tab⟩) mixed (fun k=>(aB.cons (aLl k) aB.nil)) Tryz.func21 (by kernel_rfl) (by kernel_rfl) (by kernel_rfl) (aC.all ((aC.zero.succ aES (by kernel_rfl) (fun _=>rfl) aQj).succ aFI (by kernel_rfl) (fun _=>rfl) aP5) (by kernel_rfl) (by kernel_rfl)) aVc K
def zX:aP:={ fid:=58,Γ:=[.tree],args:=[(.var 0),(.fn 72 [] [])],Δ:=[(.int .i64)],res:=(.var 0),f:=fun k x=>aGS k x }
def aJM:aF (Int):={}
def aJG:List aP:=[qJ,jQ,oJ]
theorem aQU (k:Nat) (x:Tr):aGS k x=fx xt aJG zX Tryz.f58 aJM (aA Tryz.f58) k x:=by kernel_rfl
theorem aQ3 (K:Nat):aE Tryz.prog zX K:=aG (X:=xt) (g:=zX) (H:=aJM) (env:=aJG) (c:=aA Tryz.f58) aH mixed (fun k=>(aB.cons (zH k) (aB.cons (uQ k) (aB.cons (aKv k) aB.nil)))) Tryz.func58 (by kernel_rfl) (by kernel_rfl) (by kernel_rfl) (aC.all aC.zero (by kernel_rfl) (by kernel_rfl)) aQU K
def aGi:aP:={ fid:=34,Γ:=[.tree],args:=[(.var 0)],Δ:=[(.int .i64)],res:=(.var 0),f:=fun k x=>aLX k x }
def aQ9:aF (Int):={}
def aRH:List aP:=[zX]
theorem aWD (k:Nat) (x:Tr):aLX k x=fx xt aRH aGi Tryz.f34 aQ9 (aA Tryz.f34) k x:=by kernel_rfl
theorem aWS (K:Nat):aE Tryz.prog aGi K:=aG (X:=xt) (g:=aGi) (H:=aQ9) (env:=aRH) (c:=aA Tryz.f34) aH mixed (fun k=>(aB.cons (aQ3 k) aB.nil)) Tryz.func34 (by kernel_rfl) (by kernel_rfl) (by kernel_rfl) (aC.all aC.zero (by kernel_rfl) (by kernel_rfl)) aWD K
def aAi:aP:={ fid:=33,Γ:=[.tree],args:=[(.var 0),(.fn 34 [] []),(.fn 35 [] [])],Δ:=[.str,(.int .i64)],res:=(.tup [(.var 0),(.var 1)]),f:=fun k x=>rH k x }
def aJQ:aF ((List UInt8)×Int):={}
def aJN:List aP:=[aGi,sS]
theorem aQX (k:Nat) (x:Tr):rH k x=fx xt aJN aAi Tryz.f33 aJQ (aA Tryz.f33) k x:=by kernel_rfl
theorem aQv (K:Nat):aE Tryz.prog aAi K:=aG (X:=xt) (g:=aAi) (H:=aJQ) (env:=aJN) (c:=aA Tryz.f33) aH mixed (fun k=>(aB.cons (aWS k) (aB.cons (aXg k) aB.nil))) Tryz.func33 (by kernel_rfl) (by kernel_rfl) (by kernel_rfl) (aC.all aC.zero (by kernel_rfl) (by kernel_rfl)) aQX K
def aGr:aP:={ fid:=13,Γ:=[.tree],args:=[(.var 0)],Δ:=[.str,(.int .i64)],res:=(.tup [(.var 0),(.var 1)]),f:=fun k x=>aHT k x }
def aRc:aF ((List UInt8)×Int):={}
def aRo:List aP:=[aAi]
theorem aWN (k:Nat) (x:Tr):aHT k x=fx xt aRo aGr Tryz.f13 aRc (aA Tryz.f13) k x:=by kernel_rfl
theorem aW8 (K:Nat):aE Tryz.prog aGr K:=aG (X:=xt) (g:=aGr) (H:=aRc) (env:=aRo) (c:=aA Tryz.f13) aH mixed (fun k=>(aB.cons (aQv k) aB.nil)) Tryz.func13 (by kernel_rfl) (by kernel_rfl) (by kernel_rfl) (aC.all aC.zero (by kernel_rfl) (by kernel_rfl)) aWN K
def qI:aP:={ fid:=55,Γ:=[hZ,(.int .i64),(.int .i64),.tree],args:=[(.ref 0 0),(.var 3)],sto:=[(0,(.cells 104 3 [(.var 0),(.var 1),(.var 2)] false))],nk:=1,Δ:=[.tree,(.int .i64),(.int .i64),hZ,(.int .i64),(.int .i64)],res:=(.tup [(.var 0),(.var 1),(.var 2)]),sto':=[(0,(.cells 104 3 [(.var 3),(.var 4),(.var 5)] false))],nk':=1,f:=fun k x=>lD k x.1 x.2.1 x.2.2.1 x.2.2.2 }
def aGo:aF (Tr×Int×Int×bF×Int×Int):={ ord:=[(2,[.l 0,.l 1,.l 2,.l 3,.l 4,.l 5,.l 6,.l 7,.l 8,.l 9,.l 10]),(3,[.l 0,.l 1,.l 2,.l 3,.l 4,.l 5,.l 6,.l 7])] }
def aGx:List aP:=[]
theorem aNy (k:Nat) (x:bF×Int×Int×Tr):lD k x.1 x.2.1 x.2.2.1 x.2.2.2=fx xt aGx qI Tryz.f55 aGo (aA Tryz.f55) k x:=by kernel_rfl
theorem aFK (K:Nat):aE Tryz.prog qI K:=aG (X:=xt) (g:=qI) (H:=aGo) (env:=aGx) (c:=aA Tryz.f55) aH mixed (fun k=>aB.nil) Tryz.func55 (by kernel_rfl) (by kernel_rfl) (by kernel_rfl) (aC.all aC.zero (by kernel_rfl) (by kernel_rfl)) aNy K
def aIt:aP:={ fid:=23,Γ:=[hZ,(.int .i64)],args:=[(.var 0),(.var 1)],Δ:=[.tree,(.int .i64),(.int .i64)],res:=(.tup [(.var 0),(.var 1),(.var 2)]),f:=fun k x=>aHD k x.1 x.2 }
def aTK:aF (Tr×Int×Int):={}
def aTw:List aP:=[xK,jE,qI]
theorem aZq (k:Nat) (x:bF×Int):aHD k x.1 x.2=fx xt aTw aIt Tryz.f23 aTK (aA Tryz.f23) k x:=by kernel_rfl
theorem aY1 (K:Nat):aE Tryz.prog aIt K:=aG (X:=xt) (g:=aIt) (H:=aTK) (env:=aTw) (c:=aA Tryz.f23) aH mixed (fun k=>(aB.cons (aG5 k) (aB.cons (aOd k) (aB.cons (aFK k) aB.nil)))) Tryz.func23 (by kernel_rfl) (by kernel_rfl) (by kernel_rfl) (aC.all aC.zero (by kernel_rfl) (by kernel_rfl)) aZq K
def zY:aP:={ fid:=58,Γ:=[.tree],args:=[(.var 0),(.fn 74 [] [])],Δ:=[(.int .i64)],res:=(.var 0),f:=fun k x=>aHB k x }
def aJk:aF (Int):={}
def aJR:List aP:=[qJ,jQ,mC]
theorem aQN (k:Nat) (x:Tr):aHB k x=fx xt aJR zY Tryz.f58 aJk (aA Tryz.f58) k x:=by kernel_rfl
theorem aQV (K:Nat):aE Tryz.prog zY K:=aG (X:=xt) (g:=zY) (H:=aJk) (env:=aJR) (c:=aA Tryz.f58) aH mixed (fun k=>(aB.cons (zH k) (aB.cons (uQ k) (aB.cons (aFD k) aB.nil)))) Tryz.func58 (by kernel_rfl) (by kernel_rfl) (by kernel_rfl) (aC.all aC.zero (by kernel_rfl) (by kernel_rfl)) aQN K
def aGy:aP:={ fid:=36,Γ:=[.tree],args:=[(.var 0)],Δ:=[(.int .i64)],res:=(.var 0),f:=fun k x=>aLM k x }
def aRb:aF (Int):={}
def aQ7:List aP:=[zY]
theorem aXv (k:Nat) (x:Tr):aLM k x=fx xt aQ7 aGy Tryz.f36 aRb (aA Tryz.f36) k x:=by kernel_rfl
theorem aXd (K:Nat):aE Tryz.prog aGy K:=aG (X:=xt) (g:=aGy) (H:=aRb) (env:=aQ7) (c:=aA Tryz.f36) aH mixed (fun k=>(aB.cons (aQV k) aB.nil)) Tryz.func36 (by kernel_rfl) (by kernel_rfl) (by kernel_rfl) (aC.all aC.zero (by kernel_rfl) (by kernel_rfl)) aXv K
def vC:aP:={ fid:=33,Γ:=[.tree],args:=[(.var 0),(.fn 36 [] []),(.fn 37 [] [])],Δ:=[.str,(.int .i64)],res:=(.tup [(.var 0),(.var 1)]),f:=fun k x=>nL k x }
def aGL:aF ((List UInt8)×Int):={}
def aGD:List aP:=[aGy,qT]
theorem aOg (k:Nat) (x:Tr):nL k x=fx xt aGD vC Tryz.f33 aGL (aA Tryz.f33) k x:=by kernel_rfl
theorem aN7 (K:Nat):aE Tryz.prog vC K:=aG (X:=xt) (g:=vC) (H:=aGL) (env:=aGD) (c:=aA Tryz.f33) aH mixed (fun k=>(aB.cons (aXd k) (aB.cons (aIz k) aB.nil))) Tryz.func33 (by kernel_rfl) (by kernel_rfl) (by kernel_rfl) (aC.all aC.zero (by kernel_rfl) (by kernel_rfl)) aOg K
def aGj:aP:={ fid:=14,Γ:=[.tree],args:=[(.var 0)],Δ:=[.str,(.int .i64)],res:=(.tup [(.var 0),(.var 1)]),f:=fun k x=>aH5 k x }
def aRw:aF ((List UInt8)×Int):={}
def aRy:List aP:=[vC]
theorem aXw (k:Nat) (x:Tr):aH5 k x=fx xt aRy aGj Tryz.f14 aRw (aA Tryz.f14) k x:=by kernel_rfl
theorem aWF (K:Nat):aE Tryz.prog aGj K:=aG (X:=xt) (g:=aGj) (H:=aRw) (env:=aRy) (c:=aA Tryz.f14) aH mixed (fun k=>(aB.cons (aN7 k) aB.nil)) Tryz.func14 (by kernel_rfl) (by kernel_rfl) (by kernel_rfl) (aC.all aC.zero (by kernel_rfl) (by kernel_rfl)) aXw K
def aIF:aP:={ fid:=24,Γ:=[hZ,(.int .i64)],args:=[(.var 0),(.var 1)],Δ:=[.tree,(.int .i64),(.int .i64)],res:=(.tup [(.var 0),(.var 1),(.var 2)]),f:=fun k x=>aHY k x.1 x.2 }
def aTT:aF (Tr×Int×Int):={}
def aUQ:List aP:=[xK,gU,qI]
theorem aZf (k:Nat) (x:bF×Int):aHY k x.1 x.2=fx xt aUQ aIF Tryz.f24 aTT (aA Tryz.f24) k x:=by kernel_rfl
theorem aYv (K:Nat):aE Tryz.prog aIF K:=aG (X:=xt) (g:=aIF) (H:=aTT) (env:=aUQ) (c:=aA Tryz.f24) aH mixed (fun k=>(aB.cons (aG5 k) (aB.cons (aE3 k) (aB.cons (aFK k) aB.nil)))) Tryz.func24 (by kernel_rfl) (by kernel_rfl) (by kernel_rfl) (aC.all aC.zero (by kernel_rfl) (by kernel_rfl)) aZf K
def qQ:aP:={ fid:=7,Γ:=[(.list false (.pair (.int .i64) (.pair (.int .i64) (.pair .str (.pair .str (.list false (.int .i64)))))))],args:=[(.agg [(.var 0)])],Δ:=[.bool],res:=(.var 0),f:=fun k x=>uM k x }
def yH:LH (Bool):={ Γ:=[.tree,hZ,(.int .i64),.tree,(.int .i64),(.int .i64)],live:=[(3,(.var 0)),(7,(.var 1)),(9,(.var 2)),(10,(.var 3)),(11,(.var 4)),(12,(.var 5))],F:=fun k x=>pD k x.1 x.2.1 x.2.2.1 x.2.2.2.1 x.2.2.2.2.1 x.2.2.2.2.2 }
def yN:LH (Bool):={ Γ:=[.tree],live:=[(3,(.var 0))],F:=fun k x=>jY k x }
def vE:aF (Bool):={ cuts:=[(10,yH),(12,yN)] }
def vG:List aP:=[zA,xI,aCR,aGr,vU,aIt,wW,aGj,aIF]
theorem aOe (k:Nat) (x:(List (Int×Int×(List UInt8)×(List UInt8)×(List Int)))):uM k x=fx xt vG qQ Tryz.f7 vE (aA Tryz.f7) k x:=by kernel_rfl
theorem aJ9 (k:Nat) (x:Tr×bF×Int×Tr×Int×Int):pD (k+1) x.1 x.2.1 x.2.2.1 x.2.2.2.1 x.2.2.2.2.1 x.2.2.2.2.2=gR xt vG 111 0 vE (aA Tryz.f7) (fJ xt.T Tryz.f7.results qQ) 0 yH k x:=(pD.eq_def ..).trans (by kernel_rfl)
theorem aKc (k:Nat) (x:Tr):jY (k+1) x=gR xt vG 111 0 vE (aA Tryz.f7) (fJ xt.T Tryz.f7.results qQ) 1 yN k x:=(jY.eq_def ..).trans (by kernel_rfl)
theorem aNY (K:Nat):aE Tryz.prog qQ K:=aG (X:=xt) (g:=qQ) (H:=vE) (env:=vG) (c:=aA Tryz.f7) aH mixed (fun k=>(aB.cons (aUR k) (aB.cons (aVM k) (aB.cons (aSZ k) (aB.cons (aW8 k) (aB.cons (aOw k) (aB.cons (aY1 k) (aB.cons (aVK k) (aB.cons (aWF k) (aB.cons (aYv k) aB.nil)))))))))) Tryz.func7 (by kernel_rfl) (by kernel_rfl) (by kernel_rfl) (aC.all ((aC.zero.succ yH (by kernel_rfl) (fun _=>rfl) aJ9).succ yN (by kernel_rfl) (fun _=>rfl) aKc) (by kernel_rfl) (by kernel_rfl)) aOe K
end Go.Proofs.YtjhfgiieicloeaaGreatDoor

