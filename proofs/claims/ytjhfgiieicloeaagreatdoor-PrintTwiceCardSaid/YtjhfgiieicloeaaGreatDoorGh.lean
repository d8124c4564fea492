/- Joined texts: KOk2. -/
import Derived.Test.YtjhfgiieicloeaaGreatDoorGg
/- That the Go functions come to the printed Lean functions, whatever they are handed. Printed by sxgen.py of this session. -/
namespace Go.Proofs.YtjhfgiieicloeaaGreatDoor
open Go Go.Am Go.Sx
set_option maxRecDepth 100000
def aCY:aW:={ fid:=97,Γ:=[.tree],args:=[(.var 0)],Δ:=[.str,(.int .i64)],res:=(.tup [(.var 0),(.var 1)]),f:=fun k x=>aGp k x }
def aLR:aG ((List UInt8)×Int):={}
def aLU:List aW:=[aEo,pA]
theorem aSd (k:Nat) (x:Tr):aGp k x=fx xt aLU aCY Tryz.f97 aLR (aA Tryz.f97) k x:=by kernel_rfl
theorem aSK (K:Nat):aE Tryz.prog aCY K:=aJ (X:=xt) (g:=aCY) (H:=aLR) (env:=aLU) (c:=aA Tryz.f97) aK mixed (fun k=>(aB.cons (aUn k) (aB.cons (aSV k) aB.nil))) Tryz.func97 (by kernel_rfl) (by kernel_rfl) (by kernel_rfl) (aD.all aD.zero (by kernel_rfl) (by kernel_rfl)) aSd K
def aEf:aW:={ fid:=63,Γ:=[.tree],args:=[(.var 0)],Δ:=[.str],res:=(.var 0),f:=fun k x=>tZ k x }
def aOL:aG ((List UInt8)):={}
def aOC:List aW:=[aCY]
theorem aT4 (k:Nat) (x:Tr):tZ k x=fx xt aOC aEf Tryz.f63 aOL (aA Tryz.f63) k x:=by kernel_rfl
theorem aTJ (K:Nat):aE Tryz.prog aEf K:=aJ (X:=xt) (g:=aEf) (H:=aOL) (env:=aOC) (c:=aA Tryz.f63) aK mixed (fun k=>(aB.cons (aSK k) aB.nil)) Tryz.func63 (by kernel_rfl) (by kernel_rfl) (by kernel_rfl) (aD.all aD.zero (by kernel_rfl) (by kernel_rfl)) aT4 K
def jT:aW:={ fid:=61,Γ:=[(.list false .str)],args:=[(.var 0)],Δ:=[.str],res:=(.var 0),f:=fun k x=>bW k x }
def aDE:LH ((List UInt8)):={ Γ:=[(.list false .str),(.list false .str),(.int .i64)],live:=[(3,(.row 0 0)),(6,(.var 1)),(7,(.len 1)),(8,(.var 2))],sto:=[(0,(.list 9 0 none))],nk:=1,ad:=[.t 3 9 .str],F:=fun k x=>kT k x.1 x.2.1 x.2.2 }
def aGX:aG ((List UInt8)):={ loops:=[(3,aDE)] }
def aGK:List aW:=[vR]
theorem aRY (k:Nat) (x:(List (List UInt8))):bW k x=fx xt aGK jT Tryz.f61 aGX (aA Tryz.f61) k x:=by kernel_rfl
theorem aOi (k:Nat) (x:(List (List UInt8))×(List (List UInt8))×Int):kT (k+1) x.1 x.2.1 x.2.2=iW xt aGK 21 0 aGX (aA Tryz.f61) (iI xt.T Tryz.f61.results jT) 0 aDE k x:=(kT.eq_def ..).trans (by kernel_rfl)
theorem pI (K:Nat):aE Tryz.prog jT K:=aJ (X:=xt) (g:=jT) (H:=aGX) (env:=aGK) (c:=aA Tryz.f61) aK mixed (fun k=>(aB.cons (aAj k) aB.nil)) Tryz.func61 (by kernel_rfl) (by kernel_rfl) (by kernel_rfl) (aD.all (aD.zero.succ aDE (by kernel_rfl) (fun _=>rfl) aOi) (by kernel_rfl) (by kernel_rfl)) aRY K
def xM:aW:={ fid:=64,Γ:=[(.list false .tree)],args:=[(.var 0)],Δ:=[.str],res:=(.var 0),f:=fun k x=>aCm k x }
def aFH:LH ((List UInt8)):={ Γ:=[(.list false .str),(.list false .tree),(.int .i64)],live:=[(3,(.row 0 0)),(6,(.var 1)),(7,(.len 1)),(8,(.var 2))],sto:=[(0,(.list 9 0 none))],nk:=1,ad:=[.t 3 9 .str],F:=fun k x=>oW k x.1 x.2.1 x.2.2 }
def aIv:aG ((List UInt8)):={ ord:=[(5,[.l 0,.l 1,.l 2,.l 3,.l 4,.l 5,.l 6,.l 7,.l 8,.l 9,.l 10,.h 11,.l 12,.h 13,.l 14,.h 15,.m 16])],loops:=[(3,aFH)] }
def aHR:List aW:=[wX,jT,vR]
theorem aT5 (k:Nat) (x:(List Tr)):aCm k x=fx xt aHR xM Tryz.f64 aIv (aA Tryz.f64) k x:=by kernel_rfl
theorem aPd (k:Nat) (x:(List (List UInt8))×(List Tr)×Int):oW (k+1) x.1 x.2.1 x.2.2=iW xt aHR 31 0 aIv (aA Tryz.f64) (iI xt.T Tryz.f64.results xM) 0 aFH k x:=(oW.eq_def ..).trans (by kernel_rfl)
theorem aMb (K:Nat):aE Tryz.prog xM K:=aJ (X:=xt) (g:=xM) (H:=aIv) (env:=aHR) (c:=aA Tryz.f64) aK mixed (fun k=>(aB.cons (aEl k) (aB.cons (pI k) (aB.cons (aAj k) aB.nil)))) Tryz.func64 (by kernel_rfl) (by kernel_rfl) (by kernel_rfl) (aD.all (aD.zero.succ aFH (by kernel_rfl) (fun _=>rfl) aPd) (by kernel_rfl) (by kernel_rfl)) aT5 K
def aEg:aW:={ fid:=39,Γ:=[.tree],args:=[(.var 0)],Δ:=[.str],res:=(.var 0),f:=fun k x=>eO k x }
def aBJ:aW:={ fid:=73,Γ:=[(.list false .tree)],args:=[(.var 0),(.fn 39 [] [])],Δ:=[.str],res:=(.var 0),f:=fun k x=>aCs k x }
def sR:aW:={ fid:=37,Γ:=[.tree],args:=[(.var 0)],Δ:=[.str],res:=(.var 0),f:=fun k x=>fU k x }
def aNG:aG ((List UInt8)):={ ord:=[(3,[.l 0,.l 1,.l 2,.l 3,.l 4,.l 5,.l 6,.l 7,.l 8,.l 9,.h 10,.l 11,.h 12,.l 13]),(7,[.l 0,.l 1,.l 2,.l 3,.l 4,.l 5,.l 6,.l 7,.l 8,.l 9,.h 10,.l 11,.h 12,.l 13]),(9,[.l 0,.l 1,.l 2,.l 3,.l 4,.l 5,.l 6,.l 7,.h 8,.l 9,.h 10,.l 11]),(11,[.l 0,.l 1,.l 2,.l 3,.l 4,.l 5,.l 6,.l 7,.l 8,.l 9,.h 10,.l 11,.h 12,.l 13]),(14,[.l 0,.l 1,.l 2,.l 3,.l 4,.l 5,.l 6,.l 7,.l 8,.h 9,.l 10])] }
def aOF:List aW:=[wX,jT,xM,sR]
theorem aTG (k:Nat) (x:Tr):eO (k+1) x=fx xt aOF aEg Tryz.f39 aNG (aA Tryz.f39) k x:=(eO.eq_def ..).trans (by kernel_rfl)
def aFM:LH ((List UInt8)):={ Γ:=[(.list false .str),(.list false .tree),(.int .i64)],live:=[(1,(.fn 39 [] [])),(5,(.row 0 0)),(8,(.var 1)),(9,(.len 1)),(10,(.var 2))],sto:=[(0,(.list 9 0 none))],nk:=1,ad:=[.t 5 9 .str],F:=fun k x=>pB k x.1 x.2.1 x.2.2 }
def aIc:aG ((List UInt8)):={ loops:=[(3,aFM)] }
def aIr:List aW:=[aEg,jT]
theorem aTE (k:Nat) (x:(List Tr)):aCs (k+1) x=fx xt aIr aBJ Tryz.f73 aIc (aA Tryz.f73) k x:=(aCs.eq_def ..).trans (by kernel_rfl)
theorem aPa (k:Nat) (x:(List (List UInt8))×(List Tr)×Int):pB (k+1) x.1 x.2.1 x.2.2=iW xt aIr 23 0 aIc (aA Tryz.f73) (iI xt.T Tryz.f73.results aBJ) 0 aFM k x:=(pB.eq_def ..).trans (by kernel_rfl)
def aQg:aG ((List UInt8)):={ ord:=[(5,[.l 0,.l 1,.l 2,.l 3,.l 4,.l 5,.l 7,.l 8,.l 9,.l 10,.l 11,.l 12,.l 13,.l 14,.l 15,.l 16,.h 6,.h 17,.l 18,.h 19,.l 20])] }
def aP4:List aW:=[sR,wX,jT,aBJ]
theorem aV1 (k:Nat) (x:Tr):fU (k+1) x=fx xt aP4 sR Tryz.f37 aQg (aA Tryz.f37) k x:=(fU.eq_def ..).trans (by kernel_rfl)
theorem aTA (K:Nat):aE Tryz.prog aEg K∧aE Tryz.prog aBJ K∧aE Tryz.prog sR K:=by
 induction K using Nat.strongRecOn with
 | ind K ih=>exact ⟨bC (X:=xt) (g:=aEg) (H:=aNG) (env:=aOF) (c:=aA Tryz.f39) aK mixed (fun k hk=>(aB.cons (aEl k) (aB.cons (pI k) (aB.cons (aMb k) (aB.cons (ih k hk).2.2 aB.nil))))) Tryz.func39 (by kernel_rfl) (by kernel_rfl) (by kernel_rfl) (aD.all aD.zero (by kernel_rfl) (by kernel_rfl)) (fun _=>rfl) aTG,bC (X:=xt) (g:=aBJ) (H:=aIc) (env:=aIr) (c:=aA Tryz.f73) aK mixed (fun k hk=>(aB.cons (ih k hk).1 (aB.cons (pI k) aB.nil))) Tryz.func73 (by kernel_rfl) (by kernel_rfl) (by kernel_rfl) (aD.all (aD.zero.succ aFM (by kernel_rfl) (fun _=>rfl) aPa) (by kernel_rfl) (by kernel_rfl)) (fun _=>rfl) aTE,bC (X:=xt) (g:=sR) (H:=aQg) (env:=aP4) (c:=aA Tryz.f37) aK mixed (fun k hk=>(aB.cons (ih k hk).2.2 (aB.cons (aEl k) (aB.cons (pI k) (aB.cons (ih k hk).2.1 aB.nil))))) Tryz.func37 (by kernel_rfl) (by kernel_rfl) (by kernel_rfl) (aD.all aD.zero (by kernel_rfl) (by kernel_rfl)) (fun _=>rfl) aV1⟩
theorem aND (K:Nat):aE Tryz.prog sR K:=(aTA K).2.2
def wW:aW:={ fid:=73,Γ:=[(.list false .tree)],args:=[(.var 0),(.fn 28 [] [])],Δ:=[.str],res:=(.var 0),f:=fun k x=>xT k x }
def aAO:aW:={ fid:=35,Γ:=[.tree],args:=[(.var 0)],Δ:=[.str],res:=(.var 0),f:=fun k x=>iL k x }
def aB3:aW:={ fid:=28,Γ:=[.tree],args:=[(.var 0)],Δ:=[.str],res:=(.var 0),f:=fun k x=>cE k x }
def aCS:LH ((List UInt8)):={ Γ:=[(.list false .str),(.list false .tree),(.int .i64)],live:=[(1,(.fn 28 [] [])),(5,(.row 0 0)),(8,(.var 1)),(9,(.len 1)),(10,(.var 2))],sto:=[(0,(.list 9 0 none))],nk:=1,ad:=[.t 5 9 .str],F:=fun k x=>lL k x.1 x.2.1 x.2.2 }
def aEO:aG ((List UInt8)):={ loops:=[(3,aCS)] }
def aEC:List aW:=[aB3,jT]
theorem aQ1 (k:Nat) (x:(List Tr)):xT (k+1) x=fx xt aEC wW Tryz.f73 aEO (aA Tryz.f73) k x:=(xT.eq_def ..).trans (by kernel_rfl)
theorem aMN (k:Nat) (x:(List (List UInt8))×(List Tr)×Int):lL (k+1) x.1 x.2.1 x.2.2=iW xt aEC 23 0 aEO (aA Tryz.f73) (iI xt.T Tryz.f73.results wW) 0 aCS k x:=(lL.eq_def ..).trans (by kernel_rfl)
def aGO:LH ((List UInt8)):={ Γ:=[.tree,.str],live:=[(0,(.var 0)),(3,(.var 1))],F:=fun k x=>tN k x.1 x.2 }
def aJH:aG ((List UInt8)):={ ord:=[(5,[.l 0,.l 1,.l 2,.l 3,.l 4,.l 5,.l 6,.l 7,.l 8,.l 9,.h 10,.l 11,.h 12,.l 13]),(10,[.l 0,.l 1,.l 2,.l 3,.l 4,.l 5,.l 7,.l 8,.l 9,.l 10,.l 11,.l 12,.l 13,.h 6,.h 14,.l 15,.h 16,.l 17])],cuts:=[(10,aGO)] }
def aJL:List aW:=[aAO,jT,sR,wW]
theorem aVh (k:Nat) (x:Tr):iL (k+1) x=fx xt aJL aAO Tryz.f35 aJH (aA Tryz.f35) k x:=(iL.eq_def ..).trans (by kernel_rfl)
theorem aQK (k:Nat) (x:Tr×(List UInt8)):tN (k+1) x.1 x.2=iW xt aJL 60 0 aJH (aA Tryz.f35) (iI xt.T Tryz.f35.results aAO) 0 aGO k x:=(tN.eq_def ..).trans (by kernel_rfl)
def aOY:aG ((List UInt8)):={ ord:=[(4,[.l 0,.l 1,.l 2,.l 3,.l 4,.l 5,.l 6,.l 7,.l 8,.l 9,.l 11,.l 12,.l 13,.l 14,.l 15,.l 16,.h 10,.h 17,.l 18,.h 19,.l 20]),(5,[.l 0,.l 1,.l 2,.l 3,.l 4,.l 5,.l 6,.l 7,.l 8,.l 9,.h 10,.l 11,.h 12,.l 13]),(7,[.l 0,.l 1,.l 2,.l 3,.l 4,.l 5,.l 6,.l 7,.l 8,.l 9,.h 10,.l 11,.h 12,.l 13]),(9,[.l 0,.l 1,.l 2,.l 3,.l 4,.l 5,.l 6,.l 7,.h 8,.l 9,.h 10,.l 11]),(11,[.l 0,.l 1,.l 2,.l 3,.l 4,.l 5,.l 6,.l 7,.l 8,.l 9,.h 10,.l 11,.h 12,.l 13]),(13,[.l 0,.l 1,.l 2,.l 3,.l 4,.l 5,.l 6,.l 7,.l 8,.l 9,.h 10,.l 11,.h 12,.l 13]),(15,[.l 0,.l 1,.l 2,.l 3,.l 4,.l 5,.l 6,.l 7,.l 8,.l 9,.l 10,.l 11,.l 12,.l 13,.l 15,.l 16,.l 17,.l 18,.l 19,.l 20,.h 14,.h 21,.l 22,.h 23,.l 24])] }
def aNt:List aW:=[wX,aEf,jT,xM,aAO,sR]
theorem aUp (k:Nat) (x:Tr):cE (k+1) x=fx xt aNt aB3 Tryz.f28 aOY (aA Tryz.f28) k x:=(cE.eq_def ..).trans (by kernel_rfl)
theorem aPh (K:Nat):aE Tryz.prog wW K∧aE Tryz.prog aAO K∧aE Tryz.prog aB3 K:=by
 induction K using Nat.strongRecOn with
 | ind K ih=>exact ⟨bC (X:=xt) (g:=wW) (H:=aEO) (env:=aEC) (c:=aA Tryz.f73) aK mixed (fun k hk=>(aB.cons (ih k hk).2.2 (aB.cons (pI k) aB.nil))) Tryz.func73 (by kernel_rfl) (by kernel_rfl) (by kernel_rfl) (aD.all (aD.zero.succ aCS (by kernel_rfl) (fun _=>rfl) aMN) (by kernel_rfl) (by kernel_rfl)) (fun _=>rfl) aQ1,bC (X:=xt) (g:=aAO) (H:=aJH) (env:=aJL) (c:=aA Tryz.f35) aK mixed (fun k hk=>(aB.cons (ih k hk).2.1 (aB.cons (pI k) (aB.cons (aND k) (aB.cons (ih k hk).1 aB.nil))))) Tryz.func35 (by kernel_rfl) (by kernel_rfl) (by kernel_rfl) (aD.all (aD.zero.succ aGO (by kernel_rfl) (fun _=>rfl) aQK) (by kernel_rfl) (by kernel_rfl)) (fun _=>rfl) aVh,bC (X:=xt) (g:=aB3) (H:=aOY) (env:=aNt) (c:=aA Tryz.f28) aK mixed (fun k hk=>(aB.cons (aEl k) (aB.cons (aTJ k) (aB.cons (pI k) (aB.cons (aMb k) (aB.cons (ih k hk).2.1 (aB.cons (aND k) aB.nil))))))) Tryz.func28 (by kernel_rfl) (by kernel_rfl) (by kernel_rfl) (aD.all aD.zero (by kernel_rfl) (by kernel_rfl)) (fun _=>rfl) aUp⟩
theorem aUs (K:Nat):aE Tryz.prog aB3 K:=(aPh K).2.2
def aNu:aW:={ fid:=10,Γ:=[.tree],args:=[(.var 0)],Δ:=[.str,(.int .i64)],res:=(.tup [(.var 0),(.var 1)]),f:=fun k x=>aCn k x }
def aVK:Shelf.Ren:=⟨fun n=>match n with | 169=>30 | 240=>60 | 276=>94 | _=>0,fun n=>match n with | 0=>0 | 3=>3 | 4=>4 | 5=>5 | 9=>9 | 20=>20 | 37=>55 | 70=>54 | 72=>57 | 75=>62 | 76=>63 | 80=>67 | 127=>96 | 164=>114 | _=>0,fun n=>n⟩
theorem bGh:Lays.n240 Tryz.prog aVK:=by
 constructor <;> first | kernel_rfl | (intro w; kernel_rfl)
theorem aZ2:Lays.n169 Tryz.prog aVK:=by
 constructor <;> first | kernel_rfl | (intro w; kernel_rfl)
theorem aVs:Builder.Extra Tryz.prog aVK:=by
 refine { toX72:=?_,t5:=?_,a5:=?_,z5:=?_,v5:=?_,infoByte:=?_,cellsByte:=?_,sizeByte:=?_,neB5:=?_ } <;> first | kernel_rfl | (intro w; kernel_rfl) | decide | (constructor <;> kernel_rfl)
theorem bBs {ib:Nat} {p c1:AV} (hp:p=.lit (.pointer none)∨p=.ref ib 0):mH Tryz.prog 60 [.ref ib 0] [(ib,.row 57 2 [p,c1] 0)] (fun av s=>av=.tup []∧s=[(ib,.row 57 2 [.ref ib 0,c1] 0)]) :=
 bAs bGh aVs.toX72 (by kernel_rfl) hp
theorem bHI {ib:Nat} {d:List UInt8} (h0:0<d.length) (hb:d.length≤140737488355328):mH Tryz.prog 27 [.ref ib 0,.s d] [(ib,.row 57 2 [.lit (.pointer none),.lit (.slice none 0 0)] 0)]
  (fun _ s=>∃ ig,s=[(ig,.row 5 1 (yS d) 0),(ib,.row 57 2 [.ref ib 0,.row ig d.length] 0)]):=by
 refine aBX Tryz.func27 rfl rfl ?_
 refine kV ?_
 refine aEu [(0,.ref ib 0),(1,.s d)] (s':=[(ib,.row 57 2 [.lit (.pointer none),.lit (.slice none 0 0)] 0)]) (by kernel_rfl) rfl ?_
 refine nC ?_
 refine kH jW 2 [(0,.ref ib 0),(1,.s d)] rfl (by kernel_rfl) ?_
 refine nV rfl ?_
 refine kV ?_
 refine nC ?_
 refine kH jW 1 [(0,.ref ib 0),(1,.s d),(6,.ref ib 0)] rfl (by kernel_rfl) ?_
 refine aJD rfl rfl rfl (aFb (first:=[]) (caps:=[]) (xs:=[.ref ib 0]) (args':=[.ref ib 0]) (sm:=[(ib,.row 57 2 [.lit (.pointer none),.lit (.slice none 0 0)] 0)]) (r:=[]) rfl (by kernel_rfl) Tryz.func60 rfl rfl (bBs (.inl rfl)) (by kernel_rfl) (VW.refl _) (aYu [0] (by kernel_rfl))) ?_
 rintro _ _ ⟨_,⟨rfl,rfl⟩,rfl⟩
 refine nV rfl ?_
 refine kV ?_
 refine nC ?_
 refine kH jW 4 [(0,.ref ib 0),(1,.s d),(8,.ref ib 0),(11,.ref ib 1)] rfl (by kernel_rfl) ?_
 refine at_one rfl rfl rfl (aDi (id:=ib) (off:=1) (j:=0) (av:=.lit (.slice none 0 0)) jW rfl rfl rfl rfl) ?_
 refine kH jW 6 [(1,.s d),(8,.ref ib 0),(12,.lit (.slice none 0 0)),(13,.s d)] rfl (by kernel_rfl) ?_
 refine aJD rfl rfl rfl (bAk (d:=d) jW rfl rfl rfl rfl rfl rfl rfl rfl h0 hb) ?_
 rintro _ _ ⟨ig,rfl,rfl⟩
 refine kH jW 9 [(1,.s d),(14,.row ig d.length),(16,.ref ib 1)] rfl (by kernel_rfl) ?_
 refine at_one rfl rfl rfl (aEm (id:=ib) (off:=1) (j:=1) (ds:=[.row ig d.length]) jW rfl rfl rfl rfl rfl) ?_
 refine nV rfl ?_
 refine kV ?_
 refine nC ?_
 refine kH jW 4 [(4,.i ((d.length:Nat):Int)),(5,.lit .nilIface)] rfl (by kernel_rfl) ?_
 refine nV rfl ?_
 refine aKG ?_
 exact ⟨(.tup [.i ((d.length:Nat):Int),.lit .nilIface]),(.tup [.i ((d.length:Nat):Int),.lit .nilIface]),_,(aFE (by kernel_rfl)),(eY.refl _),⟨_,wP _ [0,1],List.take_sublist 2 _⟩,ig,rfl⟩
theorem bG4 {ib ig:Nat} {l d:List UInt8} (hl:0<l.length) (h0:0<d.length) (hb:l.length+d.length≤140737488355328):mH Tryz.prog 27 [.ref ib 0,.s d] [(ig,.row 5 1 (yS l) 0),(ib,.row 57 2 [.ref ib 0,.row ig l.length] 0)]
  (fun _ s=>∃ ig',s=[(ig',.row 5 1 (yS (l++d)) 0),(ib,.row 57 2 [.ref ib 0,.row ig' (l.length+d.length)] 0)]):=by
 refine aBX Tryz.func27 rfl rfl ?_
 refine kV ?_
 refine aEu [(0,.ref ib 0),(1,.s d)] (s':=[(ig,.row 5 1 (yS l) 0),(ib,.row 57 2 [.ref ib 0,.row ig l.length] 0)]) (by kernel_rfl) rfl ?_
 refine nC ?_
 refine kH jW 2 [(0,.ref ib 0),(1,.s d)] rfl (by kernel_rfl) ?_
 refine nV rfl ?_
 refine kV ?_
 refine nC ?_
 refine kH jW 1 [(0,.ref ib 0),(1,.s d),(6,.ref ib 0)] rfl (by kernel_rfl) ?_
 refine aJD rfl rfl rfl (aFb (first:=[]) (caps:=[]) (xs:=[.ref ib 0]) (args':=[.ref ib 0]) (sm:=[(ib,.row 57 2 [.ref ib 0,.row ig l.length] 0)]) (r:=[(ig,.row 5 1 (yS l) 0)]) rfl (by kernel_rfl) Tryz.func60 rfl rfl (bBs (.inr rfl)) (by kernel_rfl) (VW.refl _) (aYu [1,0] (by kernel_rfl))) ?_
 rintro _ _ ⟨_,⟨rfl,rfl⟩,rfl⟩
 refine nV rfl ?_
 refine kV ?_
 refine nC ?_
 refine kH jW 4 [(0,.ref ib 0),(1,.s d),(8,.ref ib 0),(11,.ref ib 1)] rfl (by kernel_rfl) ?_
 refine at_one rfl rfl rfl (aDi (id:=ib) (off:=1) (j:=0) (av:=.row ig l.length) jW rfl rfl rfl rfl) ?_
 refine kH jW 6 [(1,.s d),(8,.ref ib 0),(12,.row ig l.length),(13,.s d)] rfl (by kernel_rfl) ?_
 refine aJD rfl rfl rfl (bAr (d:=d) (l:=l) (j:=1) (id:=ig) jW rfl rfl rfl rfl rfl rfl rfl hl rfl rfl h0 hb) ?_
 rintro _ _ ⟨ig',rfl,rfl⟩
 refine kH jW 9 [(1,.s d),(14,.row ig' (l.length+d.length)),(16,.ref ib 1)] rfl (by kernel_rfl) ?_
 refine at_one rfl rfl rfl (aEm (id:=ib) (off:=1) (j:=1) (ds:=[.row ig' (l.length+d.length)]) jW rfl rfl rfl rfl rfl) ?_
 refine nV rfl ?_
 refine kV ?_
 refine nC ?_
 refine kH jW 4 [(4,.i ((d.length:Nat):Int)),(5,.lit .nilIface)] rfl (by kernel_rfl) ?_
 refine nV rfl ?_
 refine aKG ?_
 exact ⟨(.tup [.i ((d.length:Nat):Int),.lit .nilIface]),(.tup [.i ((d.length:Nat):Int),.lit .nilIface]),_,(aFE (by kernel_rfl)),(eY.refl _),⟨_,wP _ [0,1],List.take_sublist 2 _⟩,ig',rfl⟩
theorem bHR {ib:Nat} {p:AV}:mH Tryz.prog 29 [.ref ib 0] [(ib,.row 57 2 [p,.lit (.slice none 0 0)] 0)] (fun av s=>av=.i 0∧s=[(ib,.row 57 2 [p,.lit (.slice none 0 0)] 0)]):=by
 refine aBX Tryz.func29 rfl rfl ?_
 refine kV ?_
 refine aEu [(0,.ref ib 0)] (s':=[(ib,.row 57 2 [p,.lit (.slice none 0 0)] 0)]) (by kernel_rfl) rfl ?_
 refine nC ?_
 refine kH jW 1 [(0,.ref ib 0)] rfl (by kernel_rfl) ?_
 refine nV rfl ?_
 refine kV ?_
 refine nC ?_
 refine kH jW 3 [(5,.ref ib 1)] rfl (by kernel_rfl) ?_
 refine at_one rfl rfl rfl (aDi (id:=ib) (off:=1) (j:=0) (av:=.lit (.slice none 0 0)) jW rfl rfl rfl rfl) ?_
 refine kH jW 6 [(2,.i 0)] rfl (by kernel_rfl) ?_
 refine nV rfl ?_
 refine aKG ?_
 exact ⟨.i 0,.i 0,_,(aFE (by kernel_rfl)),(eY.refl _),⟨_,wP _ [0],List.take_sublist 1 _⟩,rfl,rfl⟩
theorem bHE {ib ig n:Nat} {p:AV} {c:Ob}:mH Tryz.prog 29 [.ref ib 0] [(ig,c),(ib,.row 57 2 [p,.row ig n] 0)] (fun av s=>av=.i (n:Int)∧s=[(ig,c),(ib,.row 57 2 [p,.row ig n] 0)]):=by
 refine aBX Tryz.func29 rfl rfl ?_
 refine kV ?_
 refine aEu [(0,.ref ib 0)] (s':=[(ig,c),(ib,.row 57 2 [p,.row ig n] 0)]) (by kernel_rfl) rfl ?_
 refine nC ?_
 refine kH jW 1 [(0,.ref ib 0)] rfl (by kernel_rfl) ?_
 refine nV rfl ?_
 refine kV ?_
 refine nC ?_
 refine kH jW 3 [(5,.ref ib 1)] rfl (by kernel_rfl) ?_
 refine at_one rfl rfl rfl (aDi (id:=ib) (off:=1) (j:=1) (av:=.row ig n) jW rfl rfl rfl rfl) ?_
 refine kH jW 6 [(2,.i (n:Int))] rfl (by kernel_rfl) ?_
 refine nV rfl ?_
 refine aKG ?_
 exact ⟨.i (n:Int),.i (n:Int),_,(aFE (by kernel_rfl)),(eY.refl _),⟨_,wP _ [0,1],List.take_sublist 2 _⟩,rfl,rfl⟩
def aNN (ib ig:Nat) (l:List UInt8):aR:=if l=[] then [(ib,.row 57 2 [.lit (.pointer none),.lit (.slice none 0 0)] 0)] else [(ig,.row 5 1 (yS l) 0),(ib,.row 57 2 [.ref ib 0,.row ig l.length] 0)]
theorem bIh {ib ig:Nat} {l d:List UInt8} (h0:0<d.length) (hb:l.length+d.length≤140737488355328):mH Tryz.prog 27 [.ref ib 0,.s d] (aNN ib ig l) (fun _ s=>∃ ig',s=aNN ib ig' (l++d)):=by
 have hd:d≠[]:=fun e=>by rw [e] at h0; exact absurd h0 (by decide)
 unfold aNN
 by_cases hl:l=[]
 ·subst hl
  rw [if_pos rfl]
  refine (bHI h0 (by simpa using hb)).mono ?_
  rintro av s ⟨ig',rfl⟩
  exact ⟨ig',by rw [List.nil_append,if_neg hd]⟩
 ·rw [if_neg hl]
  refine (bG4 (List.length_pos_iff.2 hl) h0 hb).mono ?_
  rintro av s ⟨ig',rfl⟩
  exact ⟨ig',by rw [if_neg (by simp [hd]),List.length_append]⟩
theorem bIn {ib ig:Nat} {l:List UInt8}:mH Tryz.prog 29 [.ref ib 0] (aNN ib ig l) (fun av s=>av=.i ((l.length:Nat):Int)∧s=aNN ib ig l):=by
 unfold aNN
 by_cases hl:l=[]
 ·subst hl
  rw [if_pos rfl]
  exact bHR
 ·rw [if_neg hl]
  exact bHE
theorem bIe {ib ig:Nat} {l:List UInt8}:mH Tryz.prog 30 [.ref ib 0] (aNN ib ig l) (fun av s=>av=.s l∧s=[]):=by
 unfold aNN
 by_cases hl:l=[]
 ·subst hl
  rw [if_pos rfl]
  exact aWz aZ2 aVs
 ·rw [if_neg hl]
  refine ((aXZ (ib:=ib) (ig:=ig) (p:=.ref ib 0) aZ2 aVs hl).frame (r:=[]) (List.Perm.swap _ _ _)).mono ?_
  rintro av s ⟨_,⟨rfl,rfl⟩,rfl⟩
  exact ⟨rfl,rfl⟩
theorem aQ3 (K:Nat) (hsh:∀ t e,aED K t=some e→mH Tryz.prog 26 [.tree t] [] (fun av s=>av=.i e∧s=[]))
  (hdc:∀ k t v,cE k t=some v→mH Tryz.prog 28 [.tree t] [] (fun av s=>av=.s v∧s=[])) (p0:Tr) (r:List UInt8×Int) (h:aCn K p0=some r):mH Tryz.prog 10 [.tree p0] [] (fun av s=>av=.tup [.s r.1,.i r.2]∧s=[]):=by
 unfold aCn at h
 obtain ⟨e,he,h⟩:=aQ h
 refine aBX Tryz.func10 rfl rfl ?_
 refine kV ?_
 refine aEu [(0,.tree p0)] (s':=[]) (by kernel_rfl) rfl ?_
 refine nC ?_
 refine kH jW 2 [(0,.tree p0),(2,.s []),(3,.i 0)] rfl (by kernel_rfl) ?_
 refine nV rfl ?_
 refine kV ?_
 refine kV ?_
 refine nC ?_
 refine kH jW 1 [(0,.tree p0),(8,.tree p0)] rfl (by kernel_rfl) ?_
 refine aJD rfl rfl rfl (aFb (first:=[]) (caps:=[]) (xs:=[.tree p0]) (args':=[.tree p0]) (sm:=[]) (r:=[]) rfl (by kernel_rfl) Tryz.func26 rfl rfl (hsh p0 e he) (by kernel_rfl) (VW.refl _) (aYu [] (by kernel_rfl))) ?_
 rintro _ _ ⟨_,⟨rfl,rfl⟩,rfl⟩
 refine kH jW 3 [(0,.tree p0),(4,.i e)] rfl (by kernel_rfl) ?_
 refine nV rfl ?_
 refine kV ?_
 refine nC ?_
 refine kH jW 2 [(0,.tree p0),(4,.i e),(11,.b (!decide (e=0)))] rfl (by kernel_rfl) ?_
 refine nV rfl ?_
 refine aNs (!decide (e=0)) rfl (fun hb=>?_) (fun hb=>?_)
 ·have he0:¬ e=0:=by simpa using hb
  rw [if_neg he0] at h
  obtain rfl:=Option.some.inj h
  refine kV ?_
  refine nC ?_
  refine kH jW 3 [(2,.s []),(3,.i e)] rfl (by kernel_rfl) ?_
  refine nV rfl ?_
  refine aKG ?_
  exact ⟨.tup [.s [],.i e],.tup [.s [],.i e],_,(aFE (by kernel_rfl)),(eY.refl _),⟨_,wP _ [],List.take_sublist 0 _⟩,rfl,rfl⟩
 ·have he0:e=0:=by simpa using hb
  rw [if_pos he0] at h
  refine aRw ?_
  cases p0 with
  | nil=>cases h
  | node n1 n2 n3 n4 ks =>
  obtain ⟨s,hs,h⟩:=aQ h
  refine kV ?_
  refine nC ?_
  refine aJD rfl rfl rfl (aUJ (zs:=[(.pointer none),(.slice none 0 0)]) jW rfl rfl rfl) ?_
  rintro _ _ ⟨ib,rfl,rfl⟩
  refine nV rfl ?_
  refine kV ?_
  refine kV ?_
  refine aEu [(0,.tree (.node n1 n2 n3 n4 ks)),(5,.ref ib 0)] (s':=aNN ib 0 []) (by kernel_rfl) rfl ?_
  refine nC ?_
  refine kH jW 6 [(5,.ref ib 0),(16,.slc (ks.map AV.tree) ks.length false),(17,.i ((ks.length:Nat):Int)),(18,.i 0)] rfl (by kernel_rfl) ?_
  refine nV rfl ?_
  refine aRU ?_
  refine aVA (X:=List UInt8×Int×Nat) (fun k' x=>oY k' ks x.1 x.2.1=some s) (fun x=>[(5,.ref ib 0),(16,.slc (ks.map AV.tree) ks.length false),(17,.i ((ks.length:Nat):Int)),(18,.i x.2.1)]) (fun x=>aNN ib x.2.2 x.1) (fun x hx=>by cases hx) ?_ K ([],0,0) hs (by kernel_rfl) rfl
  clear hs
  rintro k9 ⟨acc,i,ig⟩ hs
  simp only at hs
  refine kV ?_
  refine nC ?_
  refine kH jW 1 [(5,.ref ib 0),(16,.slc (ks.map AV.tree) ks.length false),(17,.i ((ks.length:Nat):Int)),(18,.i i),(19,.b (decide (i<((ks.length:Nat):Int))))] rfl (by kernel_rfl) ?_
  refine nV rfl ?_
  refine kV ?_
  unfold oY at hs
  refine aNs (decide (i<((ks.length:Nat):Int))) rfl (fun hb10=>?_) (fun hb10=>?_)
  ·rw [hb10] at hs
   obtain ⟨t,ht,hs⟩:=aQ hs
   obtain ⟨v,hv,hs⟩:=aQ hs
   by_cases hsz:acc.length+(v.length+1)≤140737488355328
   ·rw [if_pos hsz] at hs
    refine aRw ?_
    refine kV ?_
    refine aRU ?_
    refine kV ?_
    refine nC ?_
    refine at_one rfl rfl rfl (bBL (k:=.i64) (g:=AV.tree) (l:=ks) (fu:=false) (j:=i) (v:=t) jW rfl rfl rfl rfl rfl ht) ?_
    refine kH jW 3 [(5,.ref ib 0),(7,.tree t),(16,.slc (ks.map AV.tree) ks.length false),(17,.i ((ks.length:Nat):Int)),(18,.i i)] rfl (by kernel_rfl) ?_
    refine nV rfl ?_
    refine nC ?_
    refine kH jW 1 [(5,.ref ib 0),(16,.slc (ks.map AV.tree) ks.length false),(17,.i ((ks.length:Nat):Int)),(18,.i i),(22,.tree t)] rfl (by kernel_rfl) ?_
    refine aJD rfl rfl rfl (aFb (first:=[]) (caps:=[]) (xs:=[.tree t]) (args':=[.tree t]) (sm:=[]) (r:=aNN ib ig acc) rfl (by kernel_rfl) Tryz.func28 rfl rfl (hdc _ _ v hv) (by kernel_rfl) (VW.refl _) (List.Perm.refl _)) ?_
    rintro _ _ ⟨_,⟨rfl,rfl⟩,rfl⟩
    refine at_one rfl rfl rfl (aZK (l:=v) (r:=[10]) (v:=v++[10]) (by unfold catS; rw [if_pos (by simp; omega)]) rfl rfl rfl) ?_
    refine aJD rfl rfl rfl (aFb (first:=[]) (caps:=[]) (xs:=[.ref ib 0,.s (v++[10])]) (args':=[.ref ib 0,.s (v++[10])]) (sm:=aNN ib ig acc) (r:=[]) rfl (by kernel_rfl) Tryz.func27 rfl rfl (bIh (by simp) (by simp; omega)) (by kernel_rfl) (VW.refl _) (by simp)) ?_
    rintro _ _ ⟨_,⟨ig',rfl⟩,rfl⟩
    refine nV rfl ?_
    refine nC ?_
    refine kH jW 2 [(5,.ref ib 0),(16,.slc (ks.map AV.tree) ks.length false),(17,.i ((ks.length:Nat):Int)),(18,.i (IntKind.i64.wrap (i+1)))] rfl (by kernel_rfl) ?_
    refine nV rfl ?_
    exact ⟨k9,(acc++(v++[10]),IntKind.i64.wrap (i+1),ig'),[],[],Nat.le_refl _,hs,by kernel_rfl,rfl⟩
   ·rw [if_neg hsz] at hs; cases hs
  ·have hb11:decide (i<((ks.length:Nat):Int))=false:=by simpa using hb10
   rw [hb11] at hs
   obtain rfl:=Option.some.inj hs
   refine aZH ?_
   refine kV ?_
   refine kV ?_
   refine nC ?_
   refine aJD rfl rfl rfl (aFb (first:=[]) (caps:=[]) (xs:=[.ref ib 0]) (args':=[.ref ib 0]) (sm:=aNN ib ig acc) (r:=[]) rfl (by kernel_rfl) Tryz.func29 rfl rfl bIn (by kernel_rfl) (VW.refl _) (by simp)) ?_
   rintro _ _ ⟨_,⟨rfl,rfl⟩,rfl⟩
   refine kH jW 2 [(5,.ref ib 0),(28,.b (decide (16384<((acc.length:Nat):Int))))] rfl (by kernel_rfl) ?_
   refine nV rfl ?_
   refine aNs (decide (16384<((acc.length:Nat):Int))) rfl (fun hb12=>?_) (fun hb12=>?_)
   ·have hl:16384<acc.length:=by have:=of_decide_eq_true hb12; omega
    rw [if_pos hl] at h
    obtain rfl:=Option.some.inj h
    refine kV ?_
    refine nC ?_
    refine kH jW 2 [(2,.s []),(3,.i 3)] rfl (by kernel_rfl) ?_
    refine nV rfl ?_
    refine aKG ?_
    exact ⟨.tup [.s [],.i 3],.tup [.s [],.i 3],_,(aFE (by kernel_rfl)),(eY.refl _),⟨_,wP _ [],List.take_sublist 0 _⟩,rfl,rfl⟩
   ·have hl:¬ 16384<acc.length:=by have:=of_decide_eq_false hb12; omega
    rw [if_neg hl] at h
    obtain rfl:=Option.some.inj h
    refine aRw ?_
    refine kV ?_
    refine nC ?_
    refine aJD rfl rfl rfl (aFb (first:=[]) (caps:=[]) (xs:=[.ref ib 0]) (args':=[.ref ib 0]) (sm:=aNN ib ig acc) (r:=[]) rfl (by kernel_rfl) Tryz.func30 rfl rfl bIe (by kernel_rfl) (VW.refl _) (by simp)) ?_
    rintro _ _ ⟨_,⟨rfl,rfl⟩,rfl⟩
    refine kH jW 3 [(2,.s acc),(3,.i 0)] rfl (by kernel_rfl) ?_
    refine nV rfl ?_
    refine aKG ?_
    exact ⟨.tup [.s acc,.i 0],.tup [.s acc,.i 0],_,(aFE (by kernel_rfl)),(eY.refl _),⟨_,wP _ [],List.take_sublist 0 _⟩,rfl,rfl⟩
theorem aUo (K:Nat):aE Tryz.prog aNu K:=⟨⟨_,Tryz.func10,by kernel_rfl,by kernel_rfl⟩,fun ids x y hy=>by
 refine (aQ3 K (fun t e h=>((aUg K).ok (fun _=>0) t e h).mono (by rintro av s ⟨ids',_,rfl,rfl⟩; exact ⟨rfl,rfl⟩)) (fun k t v h=>((aUs k).ok (fun _=>0) t v h).mono (by rintro av s ⟨ids',_,rfl,rfl⟩; exact ⟨rfl,rfl⟩)) x y hy).mono ?_
 rintro av s ⟨rfl,rfl⟩
 exact ⟨ids,fun _ _=>rfl,rfl,rfl⟩⟩
def zW:aW:={ fid:=19,Γ:=[.str],args:=[(.var 0)],Δ:=[.str,(.int .i64),(.int .i64)],res:=(.tup [(.var 0),(.var 1),(.var 2)]),f:=fun k x=>aAW k x }
def aL7:aG ((List UInt8)×Int×Int):={}
def aMe:List aW:=[uU,aNu]
theorem aS4 (k:Nat) (x:(List UInt8)):aAW k x=fx xt aMe zW Tryz.f19 aL7 (aA Tryz.f19) k x:=by kernel_rfl
theorem aKH (K:Nat):aE Tryz.prog zW K:=aJ (X:=xt) (g:=zW) (H:=aL7) (env:=aMe) (c:=aA Tryz.f19) aK mixed (fun k=>(aB.cons (aKh k) (aB.cons (aUo k) aB.nil))) Tryz.func19 (by kernel_rfl) (by kernel_rfl) (by kernel_rfl) (aD.all aD.zero (by kernel_rfl) (by kernel_rfl)) aS4 K
def aC6:aW:={ fid:=12,Γ:=[],args:=[],Δ:=[.bool],res:=(.var 0),f:=fun k _=>vZ k }
def aL2:aG (Bool):={}
def aLY:List aW:=[zW]
theorem aSE (k:Nat) (x:Unit):vZ k=fx xt aLY aC6 Tryz.f12 aL2 (aA Tryz.f12) k x:=by kernel_rfl
theorem aTo (K:Nat):aE Tryz.prog aC6 K:=aJ (X:=xt) (g:=aC6) (H:=aL2) (env:=aLY) (c:=aA Tryz.f12) aK mixed (fun k=>(aB.cons (aKH k) aB.nil)) Tryz.func12 (by kernel_rfl) (by kernel_rfl) (by kernel_rfl) (aD.all aD.zero (by kernel_rfl) (by kernel_rfl)) aSE K
def pN:aW:={ fid:=45,Γ:=[(.list false .tree),(.list false .tree)],args:=[(.var 0),(.var 1),(.fn 20 [] [])],Δ:=[.bool],res:=(.var 0),f:=fun k x=>sL k x.1 x.2 }
def xP:aW:={ fid:=20,Γ:=[.tree,.tree],args:=[(.var 0),(.var 1)],Δ:=[.bool],res:=(.var 0),f:=fun k x=>tX k x.1 x.2 }
def wB:LH (Bool):={ Γ:=[(.list false .tree),(.list false .tree),(.int .i64)],live:=[(1,(.var 0)),(2,(.fn 20 [] [])),(15,(.var 1)),(16,(.len 1)),(17,(.var 2))],F:=fun k x=>hG k x.1 x.2.1 x.2.2 }
def aAt:aG (Bool):={ loops:=[(4,wB)] }
def aAG:List aW:=[xP]
theorem aLk (k:Nat) (x:(List Tr)×(List Tr)):sL (k+1) x.1 x.2=fx xt aAG pN Tryz.f45 aAt (aA Tryz.f45) k x:=(sL.eq_def ..).trans (by kernel_rfl)
theorem aIw (k:Nat) (x:(List Tr)×(List Tr)×Int):hG (k+1) x.1 x.2.1 x.2.2=iW xt aAG 32 0 aAt (aA Tryz.f45) (iI xt.T Tryz.f45.results pN) 0 wB k x:=(hG.eq_def ..).trans (by kernel_rfl)
def aNw:aG (Bool):={ ord:=[(3,[.l 0,.l 1,.l 2,.l 3,.l 4,.l 5,.l 6,.l 7,.l 8,.l 9,.l 10,.l 11,.l 12,.l 13,.l 14,.l 15,.l 16,.l 17,.l 18,.l 19,.l 20,.l 21,.l 22,.l 23,.l 24,.l 25,.l 26,.l 27,.l 28,.l 29,.l 30,.l 31,.l 32,.l 33,.l 34,.l 35,.l 36,.l 37,.l 38,.l 39,.l 40,.l 41,.l 42,.l 43,.l 44,.l 45,.l 46,.l 47,.l 48,.l 49,.l 50,.h 51,.l 52,.l 53])] }
def aOU:List aW:=[pN]
theorem aTY (k:Nat) (x:Tr×Tr):tX (k+1) x.1 x.2=fx xt aOU xP Tryz.f20 aNw (aA Tryz.f20) k x:=(tX.eq_def ..).trans (by kernel_rfl)
theorem aKs (K:Nat):aE Tryz.prog pN K∧aE Tryz.prog xP K:=by
 induction K using Nat.strongRecOn with
 | ind K ih=>exact ⟨bC (X:=xt) (g:=pN) (H:=aAt) (env:=aAG) (c:=aA Tryz.f45) aK mixed (fun k hk=>(aB.cons (ih k hk).2 aB.nil)) Tryz.func45 (by kernel_rfl) (by kernel_rfl) (by kernel_rfl) (aD.all (aD.zero.succ wB (by kernel_rfl) (fun _=>rfl) aIw) (by kernel_rfl) (by kernel_rfl)) (fun _=>rfl) aLk,bC (X:=xt) (g:=xP) (H:=aNw) (env:=aOU) (c:=aA Tryz.f20) aK mixed (fun k hk=>(aB.cons (ih k hk).1 aB.nil)) Tryz.func20 (by kernel_rfl) (by kernel_rfl) (by kernel_rfl) (aD.all aD.zero (by kernel_rfl) (by kernel_rfl)) (fun _=>rfl) aTY⟩
theorem aUw (K:Nat):aE Tryz.prog xP K:=(aKs K).2
def sT:aW:={ fid:=5,Γ:=[.str],args:=[(.var 0)],Δ:=[.bool],res:=(.var 0),f:=fun k x=>rY k x }
def wA:LH (Bool):={ Γ:=[.tree,(.int .i64),.str,.str,(.int .i64)],live:=[(3,(.var 0)),(5,(.var 1)),(6,(.var 2)),(9,(.var 3)),(11,(.var 4))],F:=fun k x=>lI k x.1 x.2.1 x.2.2.1 x.2.2.2.1 x.2.2.2.2 }
def aAF:aG (Bool):={ cuts:=[(7,wA)] }
def aAw:List aW:=[uU,zW,aC6,xP]
theorem aLb (k:Nat) (x:(List UInt8)):rY k x=fx xt aAw sT Tryz.f5 aAF (aA Tryz.f5) k x:=by kernel_rfl
theorem aH4 (k:Nat) (x:Tr×Int×(List UInt8)×(List UInt8)×Int):lI (k+1) x.1 x.2.1 x.2.2.1 x.2.2.2.1 x.2.2.2.2=iW xt aAw 83 0 aAF (aA Tryz.f5) (iI xt.T Tryz.f5.results sT) 0 wA k x:=(lI.eq_def ..).trans (by kernel_rfl)
theorem aLf (K:Nat):aE Tryz.prog sT K:=aJ (X:=xt) (g:=sT) (H:=aAF) (env:=aAw) (c:=aA Tryz.f5) aK mixed (fun k=>(aB.cons (aKh k) (aB.cons (aKH k) (aB.cons (aTo k) (aB.cons (aUw k) aB.nil))))) Tryz.func5 (by kernel_rfl) (by kernel_rfl) (by kernel_rfl) (aD.all (aD.zero.succ wA (by kernel_rfl) (fun _=>rfl) aH4) (by kernel_rfl) (by kernel_rfl)) aLb K
end Go.Proofs.YtjhfgiieicloeaaGreatDoor

