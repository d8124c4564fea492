/- Joined texts: KOk2. -/
import Derived.Test.YtjhfgiieicloeaaGreatDoorGg
/- That the Go functions come to the printed Lean functions, whatever they are handed. Printed by sxgen.py of this session. -/
namespace Go.Proofs.YtjhfgiieicloeaaGreatDoor
open Go Go.Am Go.Sx
set_option maxRecDepth 100000
def aCM:aS:={ fid:=97,Γ:=[.tree],args:=[(.var 0)],Δ:=[.str,(.int .i64)],res:=(.tup [(.var 0),(.var 1)]),f:=fun k x=>aGf k x }
def aMP:aG ((List UInt8)×Int):={}
def aMQ:List aS:=[aD8,oR]
theorem aTP (k:Nat) (x:Tr):aGf k x=fx xt aMQ aCM Tryz.f97 aMP (aA Tryz.f97) k x:=by kernel_rfl
theorem aT1 (K:Nat):aE Tryz.prog aCM K:=aI (X:=xt) (g:=aCM) (H:=aMP) (env:=aMQ) (c:=aA Tryz.f97) aJ mixed (fun k=>(aB.cons (aUt k) (aB.cons (aTA k) aB.nil))) Tryz.func97 (by kernel_rfl) (by kernel_rfl) (by kernel_rfl) (aD.all aD.zero (by kernel_rfl) (by kernel_rfl)) aTP K
def aEg:aS:={ fid:=63,Γ:=[.tree],args:=[(.var 0)],Δ:=[.str],res:=(.var 0),f:=fun k x=>tL k x }
def aN6:aG ((List UInt8)):={}
def aOH:List aS:=[aCM]
theorem aUs (k:Nat) (x:Tr):tL k x=fx xt aOH aEg Tryz.f63 aN6 (aA Tryz.f63) k x:=by kernel_rfl
theorem aUO (K:Nat):aE Tryz.prog aEg K:=aI (X:=xt) (g:=aEg) (H:=aN6) (env:=aOH) (c:=aA Tryz.f63) aJ mixed (fun k=>(aB.cons (aT1 k) aB.nil)) Tryz.func63 (by kernel_rfl) (by kernel_rfl) (by kernel_rfl) (aD.all aD.zero (by kernel_rfl) (by kernel_rfl)) aUs K
def jT:aS:={ fid:=61,Γ:=[(.list false .str)],args:=[(.var 0)],Δ:=[.str],res:=(.var 0),f:=fun k x=>bR k x }
def aDz:LH ((List UInt8)):={ Γ:=[(.list false .str),(.list false .str),(.int .i64)],live:=[(3,(.row 0 0)),(6,(.var 1)),(7,(.len 1)),(8,(.var 2))],sto:=[(0,(.list 9 0 none))],nk:=1,ad:=[.t 3 9 .str],F:=fun k x=>kR k x.1 x.2.1 x.2.2 }
def aGX:aG ((List UInt8)):={ loops:=[(3,aDz)] }
def aHa:List aS:=[wP]
theorem aSK (k:Nat) (x:(List (List UInt8))):bR k x=fx xt aHa jT Tryz.f61 aGX (aA Tryz.f61) k x:=by kernel_rfl
theorem aO9 (k:Nat) (x:(List (List UInt8))×(List (List UInt8))×Int):kR (k+1) x.1 x.2.1 x.2.2=iC xt aHa 21 0 aGX (aA Tryz.f61) (fY xt.T Tryz.f61.results jT) 0 aDz k x:=(kR.eq_def ..).trans (by kernel_rfl)
theorem pT (K:Nat):aE Tryz.prog jT K:=aI (X:=xt) (g:=jT) (H:=aGX) (env:=aHa) (c:=aA Tryz.f61) aJ mixed (fun k=>(aB.cons (zX k) aB.nil)) Tryz.func61 (by kernel_rfl) (by kernel_rfl) (by kernel_rfl) (aD.all (aD.zero.succ aDz (by kernel_rfl) (fun _=>rfl) aO9) (by kernel_rfl) (by kernel_rfl)) aSK K
def xE:aS:={ fid:=64,Γ:=[(.list false .tree)],args:=[(.var 0)],Δ:=[.str],res:=(.var 0),f:=fun k x=>aCz k x }
def aEA:LH ((List UInt8)):={ Γ:=[(.list false .str),(.list false .tree),(.int .i64)],live:=[(3,(.row 0 0)),(6,(.var 1)),(7,(.len 1)),(8,(.var 2))],sto:=[(0,(.list 9 0 none))],nk:=1,ad:=[.t 3 9 .str],F:=fun k x=>pB k x.1 x.2.1 x.2.2 }
def aIq:aG ((List UInt8)):={ ord:=[(5,[.l 0,.l 1,.l 2,.l 3,.l 4,.l 5,.l 6,.l 7,.l 8,.l 9,.l 10,.h 11,.l 12,.h 13,.l 14,.h 15,.m 16])],loops:=[(3,aEA)] }
def aIa:List aS:=[vN,jT,wP]
theorem aVo (k:Nat) (x:(List Tr)):aCz k x=fx xt aIa xE Tryz.f64 aIq (aA Tryz.f64) k x:=by kernel_rfl
theorem aQt (k:Nat) (x:(List (List UInt8))×(List Tr)×Int):pB (k+1) x.1 x.2.1 x.2.2=iC xt aIa 31 0 aIq (aA Tryz.f64) (fY xt.T Tryz.f64.results xE) 0 aEA k x:=(pB.eq_def ..).trans (by kernel_rfl)
theorem aM3 (K:Nat):aE Tryz.prog xE K:=aI (X:=xt) (g:=xE) (H:=aIq) (env:=aIa) (c:=aA Tryz.f64) aJ mixed (fun k=>(aB.cons (aEe k) (aB.cons (pT k) (aB.cons (zX k) aB.nil)))) Tryz.func64 (by kernel_rfl) (by kernel_rfl) (by kernel_rfl) (aD.all (aD.zero.succ aEA (by kernel_rfl) (fun _=>rfl) aQt) (by kernel_rfl) (by kernel_rfl)) aVo K
def aEb:aS:={ fid:=39,Γ:=[.tree],args:=[(.var 0)],Δ:=[.str],res:=(.var 0),f:=fun k x=>eH k x }
def aBC:aS:={ fid:=73,Γ:=[(.list false .tree)],args:=[(.var 0),(.fn 39 [] [])],Δ:=[.str],res:=(.var 0),f:=fun k x=>aCt k x }
def sO:aS:={ fid:=37,Γ:=[.tree],args:=[(.var 0)],Δ:=[.str],res:=(.var 0),f:=fun k x=>fJ k x }
def aOb:aG ((List UInt8)):={ ord:=[(3,[.l 0,.l 1,.l 2,.l 3,.l 4,.l 5,.l 6,.l 7,.l 8,.l 9,.h 10,.l 11,.h 12,.l 13]),(7,[.l 0,.l 1,.l 2,.l 3,.l 4,.l 5,.l 6,.l 7,.l 8,.l 9,.h 10,.l 11,.h 12,.l 13]),(9,[.l 0,.l 1,.l 2,.l 3,.l 4,.l 5,.l 6,.l 7,.h 8,.l 9,.h 10,.l 11]),(11,[.l 0,.l 1,.l 2,.l 3,.l 4,.l 5,.l 6,.l 7,.l 8,.l 9,.h 10,.l 11,.h 12,.l 13]),(14,[.l 0,.l 1,.l 2,.l 3,.l 4,.l 5,.l 6,.l 7,.l 8,.h 9,.l 10])] }
def aPd:List aS:=[vN,jT,xE,sO]
theorem aUB (k:Nat) (x:Tr):eH (k+1) x=fx xt aPd aEb Tryz.f39 aOb (aA Tryz.f39) k x:=(eH.eq_def ..).trans (by kernel_rfl)
def aEB:LH ((List UInt8)):={ Γ:=[(.list false .str),(.list false .tree),(.int .i64)],live:=[(1,(.fn 39 [] [])),(5,(.row 0 0)),(8,(.var 1)),(9,(.len 1)),(10,(.var 2))],sto:=[(0,(.list 9 0 none))],nk:=1,ad:=[.t 5 9 .str],F:=fun k x=>oQ k x.1 x.2.1 x.2.2 }
def aIt:aG ((List UInt8)):={ loops:=[(3,aEB)] }
def aID:List aS:=[aEb,jT]
theorem aUz (k:Nat) (x:(List Tr)):aCt (k+1) x=fx xt aID aBC Tryz.f73 aIt (aA Tryz.f73) k x:=(aCt.eq_def ..).trans (by kernel_rfl)
theorem aQr (k:Nat) (x:(List (List UInt8))×(List Tr)×Int):oQ (k+1) x.1 x.2.1 x.2.2=iC xt aID 23 0 aIt (aA Tryz.f73) (fY xt.T Tryz.f73.results aBC) 0 aEB k x:=(oQ.eq_def ..).trans (by kernel_rfl)
def aQI:aG ((List UInt8)):={ ord:=[(5,[.l 0,.l 1,.l 2,.l 3,.l 4,.l 5,.l 7,.l 8,.l 9,.l 10,.l 11,.l 12,.l 13,.l 14,.l 15,.l 16,.h 6,.h 17,.l 18,.h 19,.l 20])] }
def aQ4:List aS:=[sO,vN,jT,aBC]
theorem aWB (k:Nat) (x:Tr):fJ (k+1) x=fx xt aQ4 sO Tryz.f37 aQI (aA Tryz.f37) k x:=(fJ.eq_def ..).trans (by kernel_rfl)
theorem aTn (K:Nat):aE Tryz.prog aEb K∧aE Tryz.prog aBC K∧aE Tryz.prog sO K:=by
 induction K using Nat.strongRecOn with
 | ind K ih=>exact ⟨aZ (X:=xt) (g:=aEb) (H:=aOb) (env:=aPd) (c:=aA Tryz.f39) aJ mixed (fun k hk=>(aB.cons (aEe k) (aB.cons (pT k) (aB.cons (aM3 k) (aB.cons (ih k hk).2.2 aB.nil))))) Tryz.func39 (by kernel_rfl) (by kernel_rfl) (by kernel_rfl) (aD.all aD.zero (by kernel_rfl) (by kernel_rfl)) (fun _=>rfl) aUB,aZ (X:=xt) (g:=aBC) (H:=aIt) (env:=aID) (c:=aA Tryz.f73) aJ mixed (fun k hk=>(aB.cons (ih k hk).1 (aB.cons (pT k) aB.nil))) Tryz.func73 (by kernel_rfl) (by kernel_rfl) (by kernel_rfl) (aD.all (aD.zero.succ aEB (by kernel_rfl) (fun _=>rfl) aQr) (by kernel_rfl) (by kernel_rfl)) (fun _=>rfl) aUz,aZ (X:=xt) (g:=sO) (H:=aQI) (env:=aQ4) (c:=aA Tryz.f37) aJ mixed (fun k hk=>(aB.cons (ih k hk).2.2 (aB.cons (aEe k) (aB.cons (pT k) (aB.cons (ih k hk).2.1 aB.nil))))) Tryz.func37 (by kernel_rfl) (by kernel_rfl) (by kernel_rfl) (aD.all aD.zero (by kernel_rfl) (by kernel_rfl)) (fun _=>rfl) aWB⟩
theorem aNX (K:Nat):aE Tryz.prog sO K:=(aTn K).2.2
def vR:aS:={ fid:=73,Γ:=[(.list false .tree)],args:=[(.var 0),(.fn 28 [] [])],Δ:=[.str],res:=(.var 0),f:=fun k x=>wY k x }
def aAO:aS:={ fid:=35,Γ:=[.tree],args:=[(.var 0)],Δ:=[.str],res:=(.var 0),f:=fun k x=>iF k x }
def aBa:aS:={ fid:=28,Γ:=[.tree],args:=[(.var 0)],Δ:=[.str],res:=(.var 0),f:=fun k x=>bY k x }
def aCD:LH ((List UInt8)):={ Γ:=[(.list false .str),(.list false .tree),(.int .i64)],live:=[(1,(.fn 28 [] [])),(5,(.row 0 0)),(8,(.var 1)),(9,(.len 1)),(10,(.var 2))],sto:=[(0,(.list 9 0 none))],nk:=1,ad:=[.t 5 9 .str],F:=fun k x=>lB k x.1 x.2.1 x.2.2 }
def aF2:aG ((List UInt8)):={ loops:=[(3,aCD)] }
def aFC:List aS:=[aBa,jT]
theorem aRg (k:Nat) (x:(List Tr)):wY (k+1) x=fx xt aFC vR Tryz.f73 aF2 (aA Tryz.f73) k x:=(wY.eq_def ..).trans (by kernel_rfl)
theorem aNq (k:Nat) (x:(List (List UInt8))×(List Tr)×Int):lB (k+1) x.1 x.2.1 x.2.2=iC xt aFC 23 0 aF2 (aA Tryz.f73) (fY xt.T Tryz.f73.results vR) 0 aCD k x:=(lB.eq_def ..).trans (by kernel_rfl)
def aGL:LH ((List UInt8)):={ Γ:=[.tree,.str],live:=[(0,(.var 0)),(3,(.var 1))],F:=fun k x=>tY k x.1 x.2 }
def aLb:aG ((List UInt8)):={ ord:=[(5,[.l 0,.l 1,.l 2,.l 3,.l 4,.l 5,.l 6,.l 7,.l 8,.l 9,.h 10,.l 11,.h 12,.l 13]),(10,[.l 0,.l 1,.l 2,.l 3,.l 4,.l 5,.l 7,.l 8,.l 9,.l 10,.l 11,.l 12,.l 13,.h 6,.h 14,.l 15,.h 16,.l 17])],cuts:=[(10,aGL)] }
def aLf:List aS:=[aAO,jT,sO,vR]
theorem aWG (k:Nat) (x:Tr):iF (k+1) x=fx xt aLf aAO Tryz.f35 aLb (aA Tryz.f35) k x:=(iF.eq_def ..).trans (by kernel_rfl)
theorem aRB (k:Nat) (x:Tr×(List UInt8)):tY (k+1) x.1 x.2=iC xt aLf 60 0 aLb (aA Tryz.f35) (fY xt.T Tryz.f35.results aAO) 0 aGL k x:=(tY.eq_def ..).trans (by kernel_rfl)
def aPg:aG ((List UInt8)):={ ord:=[(4,[.l 0,.l 1,.l 2,.l 3,.l 4,.l 5,.l 6,.l 7,.l 8,.l 9,.l 11,.l 12,.l 13,.l 14,.l 15,.l 16,.h 10,.h 17,.l 18,.h 19,.l 20]),(5,[.l 0,.l 1,.l 2,.l 3,.l 4,.l 5,.l 6,.l 7,.l 8,.l 9,.h 10,.l 11,.h 12,.l 13]),(7,[.l 0,.l 1,.l 2,.l 3,.l 4,.l 5,.l 6,.l 7,.l 8,.l 9,.h 10,.l 11,.h 12,.l 13]),(9,[.l 0,.l 1,.l 2,.l 3,.l 4,.l 5,.l 6,.l 7,.h 8,.l 9,.h 10,.l 11]),(11,[.l 0,.l 1,.l 2,.l 3,.l 4,.l 5,.l 6,.l 7,.l 8,.l 9,.h 10,.l 11,.h 12,.l 13]),(13,[.l 0,.l 1,.l 2,.l 3,.l 4,.l 5,.l 6,.l 7,.l 8,.l 9,.h 10,.l 11,.h 12,.l 13]),(15,[.l 0,.l 1,.l 2,.l 3,.l 4,.l 5,.l 6,.l 7,.l 8,.l 9,.l 10,.l 11,.l 12,.l 13,.l 15,.l 16,.l 17,.l 18,.l 19,.l 20,.h 14,.h 21,.l 22,.h 23,.l 24])] }
def aPy:List aS:=[vN,aEg,jT,xE,aAO,sO]
theorem aVb (k:Nat) (x:Tr):bY (k+1) x=fx xt aPy aBa Tryz.f28 aPg (aA Tryz.f28) k x:=(bY.eq_def ..).trans (by kernel_rfl)
theorem aQm (K:Nat):aE Tryz.prog vR K∧aE Tryz.prog aAO K∧aE Tryz.prog aBa K:=by
 induction K using Nat.strongRecOn with
 | ind K ih=>exact ⟨aZ (X:=xt) (g:=vR) (H:=aF2) (env:=aFC) (c:=aA Tryz.f73) aJ mixed (fun k hk=>(aB.cons (ih k hk).2.2 (aB.cons (pT k) aB.nil))) Tryz.func73 (by kernel_rfl) (by kernel_rfl) (by kernel_rfl) (aD.all (aD.zero.succ aCD (by kernel_rfl) (fun _=>rfl) aNq) (by kernel_rfl) (by kernel_rfl)) (fun _=>rfl) aRg,aZ (X:=xt) (g:=aAO) (H:=aLb) (env:=aLf) (c:=aA Tryz.f35) aJ mixed (fun k hk=>(aB.cons (ih k hk).2.1 (aB.cons (pT k) (aB.cons (aNX k) (aB.cons (ih k hk).1 aB.nil))))) Tryz.func35 (by kernel_rfl) (by kernel_rfl) (by kernel_rfl) (aD.all (aD.zero.succ aGL (by kernel_rfl) (fun _=>rfl) aRB) (by kernel_rfl) (by kernel_rfl)) (fun _=>rfl) aWG,aZ (X:=xt) (g:=aBa) (H:=aPg) (env:=aPy) (c:=aA Tryz.f28) aJ mixed (fun k hk=>(aB.cons (aEe k) (aB.cons (aUO k) (aB.cons (pT k) (aB.cons (aM3 k) (aB.cons (ih k hk).2.1 (aB.cons (aNX k) aB.nil))))))) Tryz.func28 (by kernel_rfl) (by kernel_rfl) (by kernel_rfl) (aD.all aD.zero (by kernel_rfl) (by kernel_rfl)) (fun _=>rfl) aVb⟩
theorem aU8 (K:Nat):aE Tryz.prog aBa K:=(aQm K).2.2
def aIX:aS:={ fid:=10,Γ:=[.tree],args:=[(.var 0)],Δ:=[.str,(.int .i64)],res:=(.tup [(.var 0),(.var 1)]),f:=fun k x=>aAn k x }
def aWT:Shelf.Ren:=⟨fun n=>match n with | 169=>30 | 240=>60 | 276=>94 | _=>0,fun n=>match n with | 0=>0 | 3=>3 | 4=>4 | 5=>5 | 9=>9 | 20=>20 | 37=>55 | 70=>54 | 72=>57 | 75=>62 | 76=>63 | 80=>67 | 127=>96 | 164=>114 | _=>0,fun n=>n⟩
theorem bHt:Lays.n240 Tryz.prog aWT:=by
 constructor <;> first | kernel_rfl | (intro w; kernel_rfl)
theorem bA2:Lays.n169 Tryz.prog aWT:=by
 constructor <;> first | kernel_rfl | (intro w; kernel_rfl)
theorem aWQ:Builder.Extra Tryz.prog aWT:=by
 refine { toX72:=?_,t5:=?_,a5:=?_,z5:=?_,v5:=?_,infoByte:=?_,cellsByte:=?_,sizeByte:=?_,neB5:=?_ } <;> first | kernel_rfl | (intro w; kernel_rfl) | decide | (constructor <;> kernel_rfl)
theorem bDU {ib:Nat} {p c1:AV} (hp:p=.lit (.pointer none)∨p=.ref ib 0):mA Tryz.prog 60 [.ref ib 0] [(ib,.row 57 2 [p,c1] 0)] (fun av s=>av=.tup []∧s=[(ib,.row 57 2 [.ref ib 0,c1] 0)]) :=
 bBQ bHt aWQ.toX72 (by kernel_rfl) hp
theorem bHB {ib:Nat} {d:List UInt8} (h0:0<d.length) (hb:d.length≤140737488355328):mA Tryz.prog 27 [.ref ib 0,.s d] [(ib,.row 57 2 [.lit (.pointer none),.lit (.slice none 0 0)] 0)]
  (fun _ s=>∃ ig,s=[(ig,.row 5 1 (yA d) 0),(ib,.row 57 2 [.ref ib 0,.row ig d.length] 0)]):=by
 refine aBJ Tryz.func27 rfl rfl ?_
 refine kN ?_
 refine aEo [(0,.ref ib 0),(1,.s d)] (s':=[(ib,.row 57 2 [.lit (.pointer none),.lit (.slice none 0 0)] 0)]) (by kernel_rfl) rfl ?_
 refine mT ?_
 refine kB jM 2 [(0,.ref ib 0),(1,.s d)] rfl (by kernel_rfl) ?_
 refine nR rfl ?_
 refine kN ?_
 refine mT ?_
 refine kB jM 1 [(0,.ref ib 0),(1,.s d),(6,.ref ib 0)] rfl (by kernel_rfl) ?_
 refine aKn rfl rfl rfl (aEN (first:=[]) (caps:=[]) (xs:=[.ref ib 0]) (args':=[.ref ib 0]) (sm:=[(ib,.row 57 2 [.lit (.pointer none),.lit (.slice none 0 0)] 0)]) (r:=[]) rfl (by kernel_rfl) Tryz.func60 rfl rfl (bDU (.inl rfl)) (by kernel_rfl) (VW.refl _) (aZG [0] (by kernel_rfl))) ?_
 rintro _ _ ⟨_,⟨rfl,rfl⟩,rfl⟩
 refine nR rfl ?_
 refine kN ?_
 refine mT ?_
 refine kB jM 4 [(0,.ref ib 0),(1,.s d),(8,.ref ib 0),(11,.ref ib 1)] rfl (by kernel_rfl) ?_
 refine at_one rfl rfl rfl (aC6 (id:=ib) (off:=1) (j:=0) (av:=.lit (.slice none 0 0)) jM rfl rfl rfl rfl) ?_
 refine kB jM 6 [(1,.s d),(8,.ref ib 0),(12,.lit (.slice none 0 0)),(13,.s d)] rfl (by kernel_rfl) ?_
 refine aKn rfl rfl rfl (bBn (d:=d) jM rfl rfl rfl rfl rfl rfl rfl rfl h0 hb) ?_
 rintro _ _ ⟨ig,rfl,rfl⟩
 refine kB jM 9 [(1,.s d),(14,.row ig d.length),(16,.ref ib 1)] rfl (by kernel_rfl) ?_
 refine at_one rfl rfl rfl (aEl (id:=ib) (off:=1) (j:=1) (ds:=[.row ig d.length]) jM rfl rfl rfl rfl rfl) ?_
 refine nR rfl ?_
 refine kN ?_
 refine mT ?_
 refine kB jM 4 [(4,.i ((d.length:Nat):Int)),(5,.lit .nilIface)] rfl (by kernel_rfl) ?_
 refine nR rfl ?_
 refine aLd ?_
 exact ⟨(.tup [.i ((d.length:Nat):Int),.lit .nilIface]),(.tup [.i ((d.length:Nat):Int),.lit .nilIface]),_,(aE3 (by kernel_rfl)),(eR.refl _),⟨_,vT _ [0,1],List.take_sublist 2 _⟩,ig,rfl⟩
theorem bH5 {ib ig:Nat} {l d:List UInt8} (hl:0<l.length) (h0:0<d.length) (hb:l.length+d.length≤140737488355328):mA Tryz.prog 27 [.ref ib 0,.s d] [(ig,.row 5 1 (yA l) 0),(ib,.row 57 2 [.ref ib 0,.row ig l.length] 0)]
  (fun _ s=>∃ ig',s=[(ig',.row 5 1 (yA (l++d)) 0),(ib,.row 57 2 [.ref ib 0,.row ig' (l.length+d.length)] 0)]):=by
 refine aBJ Tryz.func27 rfl rfl ?_
 refine kN ?_
 refine aEo [(0,.ref ib 0),(1,.s d)] (s':=[(ig,.row 5 1 (yA l) 0),(ib,.row 57 2 [.ref ib 0,.row ig l.length] 0)]) (by kernel_rfl) rfl ?_
 refine mT ?_
 refine kB jM 2 [(0,.ref ib 0),(1,.s d)] rfl (by kernel_rfl) ?_
 refine nR rfl ?_
 refine kN ?_
 refine mT ?_
 refine kB jM 1 [(0,.ref ib 0),(1,.s d),(6,.ref ib 0)] rfl (by kernel_rfl) ?_
 refine aKn rfl rfl rfl (aEN (first:=[]) (caps:=[]) (xs:=[.ref ib 0]) (args':=[.ref ib 0]) (sm:=[(ib,.row 57 2 [.ref ib 0,.row ig l.length] 0)]) (r:=[(ig,.row 5 1 (yA l) 0)]) rfl (by kernel_rfl) Tryz.func60 rfl rfl (bDU (.inr rfl)) (by kernel_rfl) (VW.refl _) (aZG [1,0] (by kernel_rfl))) ?_
 rintro _ _ ⟨_,⟨rfl,rfl⟩,rfl⟩
 refine nR rfl ?_
 refine kN ?_
 refine mT ?_
 refine kB jM 4 [(0,.ref ib 0),(1,.s d),(8,.ref ib 0),(11,.ref ib 1)] rfl (by kernel_rfl) ?_
 refine at_one rfl rfl rfl (aC6 (id:=ib) (off:=1) (j:=0) (av:=.row ig l.length) jM rfl rfl rfl rfl) ?_
 refine kB jM 6 [(1,.s d),(8,.ref ib 0),(12,.row ig l.length),(13,.s d)] rfl (by kernel_rfl) ?_
 refine aKn rfl rfl rfl (bBr (d:=d) (l:=l) (j:=1) (id:=ig) jM rfl rfl rfl rfl rfl rfl rfl hl rfl rfl h0 hb) ?_
 rintro _ _ ⟨ig',rfl,rfl⟩
 refine kB jM 9 [(1,.s d),(14,.row ig' (l.length+d.length)),(16,.ref ib 1)] rfl (by kernel_rfl) ?_
 refine at_one rfl rfl rfl (aEl (id:=ib) (off:=1) (j:=1) (ds:=[.row ig' (l.length+d.length)]) jM rfl rfl rfl rfl rfl) ?_
 refine nR rfl ?_
 refine kN ?_
 refine mT ?_
 refine kB jM 4 [(4,.i ((d.length:Nat):Int)),(5,.lit .nilIface)] rfl (by kernel_rfl) ?_
 refine nR rfl ?_
 refine aLd ?_
 exact ⟨(.tup [.i ((d.length:Nat):Int),.lit .nilIface]),(.tup [.i ((d.length:Nat):Int),.lit .nilIface]),_,(aE3 (by kernel_rfl)),(eR.refl _),⟨_,vT _ [0,1],List.take_sublist 2 _⟩,ig',rfl⟩
theorem bIn {ib:Nat} {p:AV}:mA Tryz.prog 29 [.ref ib 0] [(ib,.row 57 2 [p,.lit (.slice none 0 0)] 0)] (fun av s=>av=.i 0∧s=[(ib,.row 57 2 [p,.lit (.slice none 0 0)] 0)]):=by
 refine aBJ Tryz.func29 rfl rfl ?_
 refine kN ?_
 refine aEo [(0,.ref ib 0)] (s':=[(ib,.row 57 2 [p,.lit (.slice none 0 0)] 0)]) (by kernel_rfl) rfl ?_
 refine mT ?_
 refine kB jM 1 [(0,.ref ib 0)] rfl (by kernel_rfl) ?_
 refine nR rfl ?_
 refine kN ?_
 refine mT ?_
 refine kB jM 3 [(5,.ref ib 1)] rfl (by kernel_rfl) ?_
 refine at_one rfl rfl rfl (aC6 (id:=ib) (off:=1) (j:=0) (av:=.lit (.slice none 0 0)) jM rfl rfl rfl rfl) ?_
 refine kB jM 6 [(2,.i 0)] rfl (by kernel_rfl) ?_
 refine nR rfl ?_
 refine aLd ?_
 exact ⟨.i 0,.i 0,_,(aE3 (by kernel_rfl)),(eR.refl _),⟨_,vT _ [0],List.take_sublist 1 _⟩,rfl,rfl⟩
theorem bHm {ib ig n:Nat} {p:AV} {c:Ob}:mA Tryz.prog 29 [.ref ib 0] [(ig,c),(ib,.row 57 2 [p,.row ig n] 0)] (fun av s=>av=.i (n:Int)∧s=[(ig,c),(ib,.row 57 2 [p,.row ig n] 0)]):=by
 refine aBJ Tryz.func29 rfl rfl ?_
 refine kN ?_
 refine aEo [(0,.ref ib 0)] (s':=[(ig,c),(ib,.row 57 2 [p,.row ig n] 0)]) (by kernel_rfl) rfl ?_
 refine mT ?_
 refine kB jM 1 [(0,.ref ib 0)] rfl (by kernel_rfl) ?_
 refine nR rfl ?_
 refine kN ?_
 refine mT ?_
 refine kB jM 3 [(5,.ref ib 1)] rfl (by kernel_rfl) ?_
 refine at_one rfl rfl rfl (aC6 (id:=ib) (off:=1) (j:=1) (av:=.row ig n) jM rfl rfl rfl rfl) ?_
 refine kB jM 6 [(2,.i (n:Int))] rfl (by kernel_rfl) ?_
 refine nR rfl ?_
 refine aLd ?_
 exact ⟨.i (n:Int),.i (n:Int),_,(aE3 (by kernel_rfl)),(eR.refl _),⟨_,vT _ [0,1],List.take_sublist 2 _⟩,rfl,rfl⟩
def aPm (ib ig:Nat) (l:List UInt8):aN:=if l=[] then [(ib,.row 57 2 [.lit (.pointer none),.lit (.slice none 0 0)] 0)] else [(ig,.row 5 1 (yA l) 0),(ib,.row 57 2 [.ref ib 0,.row ig l.length] 0)]
theorem bJK {ib ig:Nat} {l d:List UInt8} (h0:0<d.length) (hb:l.length+d.length≤140737488355328):mA Tryz.prog 27 [.ref ib 0,.s d] (aPm ib ig l) (fun _ s=>∃ ig',s=aPm ib ig' (l++d)):=by
 have hd:d≠[]:=fun e=>by rw [e] at h0; exact absurd h0 (by decide)
 unfold aPm
 by_cases hl:l=[]
 ·subst hl
  rw [if_pos rfl]
  refine (bHB h0 (by simpa using hb)).mono ?_
  rintro av s ⟨ig',rfl⟩
  exact ⟨ig',by rw [List.nil_append,if_neg hd]⟩
 ·rw [if_neg hl]
  refine (bH5 (List.length_pos_iff.2 hl) h0 hb).mono ?_
  rintro av s ⟨ig',rfl⟩
  exact ⟨ig',by rw [if_neg (by simp [hd]),List.length_append]⟩
theorem bJy {ib ig:Nat} {l:List UInt8}:mA Tryz.prog 29 [.ref ib 0] (aPm ib ig l) (fun av s=>av=.i ((l.length:Nat):Int)∧s=aPm ib ig l):=by
 unfold aPm
 by_cases hl:l=[]
 ·subst hl
  rw [if_pos rfl]
  exact bIn
 ·rw [if_neg hl]
  exact bHm
theorem bJC {ib ig:Nat} {l:List UInt8}:mA Tryz.prog 30 [.ref ib 0] (aPm ib ig l) (fun av s=>av=.s l∧s=[]):=by
 unfold aPm
 by_cases hl:l=[]
 ·subst hl
  rw [if_pos rfl]
  exact aYA bA2 aWQ
 ·rw [if_neg hl]
  refine ((aYV (ib:=ib) (ig:=ig) (p:=.ref ib 0) bA2 aWQ hl).frame (r:=[]) (List.Perm.swap _ _ _)).mono ?_
  rintro av s ⟨_,⟨rfl,rfl⟩,rfl⟩
  exact ⟨rfl,rfl⟩
theorem aRe (K:Nat) (hsh:∀ t e,aE4 K t=some e→mA Tryz.prog 26 [.tree t] [] (fun av s=>av=.i e∧s=[]))
  (hdc:∀ k t v,bY k t=some v→mA Tryz.prog 28 [.tree t] [] (fun av s=>av=.s v∧s=[])) (p0:Tr) (r:List UInt8×Int) (h:aAn K p0=some r):mA Tryz.prog 10 [.tree p0] [] (fun av s=>av=.tup [.s r.1,.i r.2]∧s=[]):=by
 unfold aAn at h
 obtain ⟨e,he,h⟩:=aM h
 refine aBJ Tryz.func10 rfl rfl ?_
 refine kN ?_
 refine aEo [(0,.tree p0)] (s':=[]) (by kernel_rfl) rfl ?_
 refine mT ?_
 refine kB jM 2 [(0,.tree p0),(2,.s []),(3,.i 0)] rfl (by kernel_rfl) ?_
 refine nR rfl ?_
 refine kN ?_
 refine kN ?_
 refine mT ?_
 refine kB jM 1 [(0,.tree p0),(8,.tree p0)] rfl (by kernel_rfl) ?_
 refine aKn rfl rfl rfl (aEN (first:=[]) (caps:=[]) (xs:=[.tree p0]) (args':=[.tree p0]) (sm:=[]) (r:=[]) rfl (by kernel_rfl) Tryz.func26 rfl rfl (hsh p0 e he) (by kernel_rfl) (VW.refl _) (aZG [] (by kernel_rfl))) ?_
 rintro _ _ ⟨_,⟨rfl,rfl⟩,rfl⟩
 refine kB jM 3 [(0,.tree p0),(4,.i e)] rfl (by kernel_rfl) ?_
 refine nR rfl ?_
 refine kN ?_
 refine mT ?_
 refine kB jM 2 [(0,.tree p0),(4,.i e),(11,.b (!decide (e=0)))] rfl (by kernel_rfl) ?_
 refine nR rfl ?_
 refine aOo (!decide (e=0)) rfl (fun hb=>?_) (fun hb=>?_)
 ·have he0:¬ e=0:=by simpa using hb
  rw [if_neg he0] at h
  obtain rfl:=Option.some.inj h
  refine kN ?_
  refine mT ?_
  refine kB jM 3 [(2,.s []),(3,.i e)] rfl (by kernel_rfl) ?_
  refine nR rfl ?_
  refine aLd ?_
  exact ⟨.tup [.s [],.i e],.tup [.s [],.i e],_,(aE3 (by kernel_rfl)),(eR.refl _),⟨_,vT _ [],List.take_sublist 0 _⟩,rfl,rfl⟩
 ·have he0:e=0:=by simpa using hb
  rw [if_pos he0] at h
  refine aR5 ?_
  cases p0 with
  | nil=>cases h
  | node n1 n2 n3 n4 ks =>
  obtain ⟨s,hs,h⟩:=aM h
  refine kN ?_
  refine mT ?_
  refine aKn rfl rfl rfl (aV5 (zs:=[(.pointer none),(.slice none 0 0)]) jM rfl rfl rfl) ?_
  rintro _ _ ⟨ib,rfl,rfl⟩
  refine nR rfl ?_
  refine kN ?_
  refine kN ?_
  refine aEo [(0,.tree (.node n1 n2 n3 n4 ks)),(5,.ref ib 0)] (s':=aPm ib 0 []) (by kernel_rfl) rfl ?_
  refine mT ?_
  refine kB jM 6 [(5,.ref ib 0),(16,.slc (ks.map AV.tree) ks.length false),(17,.i ((ks.length:Nat):Int)),(18,.i 0)] rfl (by kernel_rfl) ?_
  refine nR rfl ?_
  refine aSN ?_
  refine aXa (X:=List UInt8×Int×Nat) (fun k' x=>oP k' ks x.1 x.2.1=some s) (fun x=>[(5,.ref ib 0),(16,.slc (ks.map AV.tree) ks.length false),(17,.i ((ks.length:Nat):Int)),(18,.i x.2.1)]) (fun x=>aPm ib x.2.2 x.1) (fun x hx=>by cases hx) ?_ K ([],0,0) hs (by kernel_rfl) rfl
  clear hs
  rintro k9 ⟨acc,i,ig⟩ hs
  simp only at hs
  refine kN ?_
  refine mT ?_
  refine kB jM 1 [(5,.ref ib 0),(16,.slc (ks.map AV.tree) ks.length false),(17,.i ((ks.length:Nat):Int)),(18,.i i),(19,.b (decide (i<((ks.length:Nat):Int))))] rfl (by kernel_rfl) ?_
  refine nR rfl ?_
  refine kN ?_
  unfold oP at hs
  refine aOo (decide (i<((ks.length:Nat):Int))) rfl (fun hb10=>?_) (fun hb10=>?_)
  ·rw [hb10] at hs
   obtain ⟨t,ht,hs⟩:=aM hs
   obtain ⟨v,hv,hs⟩:=aM hs
   by_cases hsz:acc.length+(v.length+1)≤140737488355328
   ·rw [if_pos hsz] at hs
    refine aR5 ?_
    refine kN ?_
    refine aSN ?_
    refine kN ?_
    refine mT ?_
    refine at_one rfl rfl rfl (bDw (k:=.i64) (g:=AV.tree) (l:=ks) (fu:=false) (j:=i) (v:=t) jM rfl rfl rfl rfl rfl ht) ?_
    refine kB jM 3 [(5,.ref ib 0),(7,.tree t),(16,.slc (ks.map AV.tree) ks.length false),(17,.i ((ks.length:Nat):Int)),(18,.i i)] rfl (by kernel_rfl) ?_
    refine nR rfl ?_
    refine mT ?_
    refine kB jM 1 [(5,.ref ib 0),(16,.slc (ks.map AV.tree) ks.length false),(17,.i ((ks.length:Nat):Int)),(18,.i i),(22,.tree t)] rfl (by kernel_rfl) ?_
    refine aKn rfl rfl rfl (aEN (first:=[]) (caps:=[]) (xs:=[.tree t]) (args':=[.tree t]) (sm:=[]) (r:=aPm ib ig acc) rfl (by kernel_rfl) Tryz.func28 rfl rfl (hdc _ _ v hv) (by kernel_rfl) (VW.refl _) (List.Perm.refl _)) ?_
    rintro _ _ ⟨_,⟨rfl,rfl⟩,rfl⟩
    refine at_one rfl rfl rfl (bAz (l:=v) (r:=[10]) (v:=v++[10]) (by unfold catS; rw [if_pos (by simp; omega)]) rfl rfl rfl) ?_
    refine aKn rfl rfl rfl (aEN (first:=[]) (caps:=[]) (xs:=[.ref ib 0,.s (v++[10])]) (args':=[.ref ib 0,.s (v++[10])]) (sm:=aPm ib ig acc) (r:=[]) rfl (by kernel_rfl) Tryz.func27 rfl rfl (bJK (by simp) (by simp; omega)) (by kernel_rfl) (VW.refl _) (by simp)) ?_
    rintro _ _ ⟨_,⟨ig',rfl⟩,rfl⟩
    refine nR rfl ?_
    refine mT ?_
    refine kB jM 2 [(5,.ref ib 0),(16,.slc (ks.map AV.tree) ks.length false),(17,.i ((ks.length:Nat):Int)),(18,.i (IntKind.i64.wrap (i+1)))] rfl (by kernel_rfl) ?_
    refine nR rfl ?_
    exact ⟨k9,(acc++(v++[10]),IntKind.i64.wrap (i+1),ig'),[],[],Nat.le_refl _,hs,by kernel_rfl,rfl⟩
   ·rw [if_neg hsz] at hs; cases hs
  ·have hb11:decide (i<((ks.length:Nat):Int))=false:=by simpa using hb10
   rw [hb11] at hs
   obtain rfl:=Option.some.inj hs
   refine bAr ?_
   refine kN ?_
   refine kN ?_
   refine mT ?_
   refine aKn rfl rfl rfl (aEN (first:=[]) (caps:=[]) (xs:=[.ref ib 0]) (args':=[.ref ib 0]) (sm:=aPm ib ig acc) (r:=[]) rfl (by kernel_rfl) Tryz.func29 rfl rfl bJy (by kernel_rfl) (VW.refl _) (by simp)) ?_
   rintro _ _ ⟨_,⟨rfl,rfl⟩,rfl⟩
   refine kB jM 2 [(5,.ref ib 0),(28,.b (decide (16384<((acc.length:Nat):Int))))] rfl (by kernel_rfl) ?_
   refine nR rfl ?_
   refine aOo (decide (16384<((acc.length:Nat):Int))) rfl (fun hb12=>?_) (fun hb12=>?_)
   ·have hl:16384<acc.length:=by have:=of_decide_eq_true hb12; omega
    rw [if_pos hl] at h
    obtain rfl:=Option.some.inj h
    refine kN ?_
    refine mT ?_
    refine kB jM 2 [(2,.s []),(3,.i 3)] rfl (by kernel_rfl) ?_
    refine nR rfl ?_
    refine aLd ?_
    exact ⟨.tup [.s [],.i 3],.tup [.s [],.i 3],_,(aE3 (by kernel_rfl)),(eR.refl _),⟨_,vT _ [],List.take_sublist 0 _⟩,rfl,rfl⟩
   ·have hl:¬ 16384<acc.length:=by have:=of_decide_eq_false hb12; omega
    rw [if_neg hl] at h
    obtain rfl:=Option.some.inj h
    refine aR5 ?_
    refine kN ?_
    refine mT ?_
    refine aKn rfl rfl rfl (aEN (first:=[]) (caps:=[]) (xs:=[.ref ib 0]) (args':=[.ref ib 0]) (sm:=aPm ib ig acc) (r:=[]) rfl (by kernel_rfl) Tryz.func30 rfl rfl bJC (by kernel_rfl) (VW.refl _) (by simp)) ?_
    rintro _ _ ⟨_,⟨rfl,rfl⟩,rfl⟩
    refine kB jM 3 [(2,.s acc),(3,.i 0)] rfl (by kernel_rfl) ?_
    refine nR rfl ?_
    refine aLd ?_
    exact ⟨.tup [.s acc,.i 0],.tup [.s acc,.i 0],_,(aE3 (by kernel_rfl)),(eR.refl _),⟨_,vT _ [],List.take_sublist 0 _⟩,rfl,rfl⟩
theorem aMx (K:Nat):aE Tryz.prog aIX K:=⟨⟨_,Tryz.func10,by kernel_rfl,by kernel_rfl⟩,fun ids x y hy=>by
 refine (aRe K (fun t e h=>((aUI K).ok (fun _=>0) t e h).mono (by rintro av s ⟨ids',_,rfl,rfl⟩; exact ⟨rfl,rfl⟩)) (fun k t v h=>((aU8 k).ok (fun _=>0) t v h).mono (by rintro av s ⟨ids',_,rfl,rfl⟩; exact ⟨rfl,rfl⟩)) x y hy).mono ?_
 rintro av s ⟨rfl,rfl⟩
 exact ⟨ids,fun _ _=>rfl,rfl,rfl⟩⟩
def aCX:aS:={ fid:=19,Γ:=[.str],args:=[(.var 0)],Δ:=[.str,(.int .i64),(.int .i64)],res:=(.tup [(.var 0),(.var 1),(.var 2)]),f:=fun k x=>aJR k x }
def aMX:aG ((List UInt8)×Int×Int):={}
def aME:List aS:=[uP,aIX]
theorem aSv (k:Nat) (x:(List UInt8)):aJR k x=fx xt aME aCX Tryz.f19 aMX (aA Tryz.f19) k x:=by kernel_rfl
theorem aTS (K:Nat):aE Tryz.prog aCX K:=aI (X:=xt) (g:=aCX) (H:=aMX) (env:=aME) (c:=aA Tryz.f19) aJ mixed (fun k=>(aB.cons (aJ6 k) (aB.cons (aMx k) aB.nil))) Tryz.func19 (by kernel_rfl) (by kernel_rfl) (by kernel_rfl) (aD.all aD.zero (by kernel_rfl) (by kernel_rfl)) aSv K
def aCW:aS:={ fid:=12,Γ:=[],args:=[],Δ:=[.bool],res:=(.var 0),f:=fun k _=>vL k }
def aM2:aG (Bool):={}
def aMN:List aS:=[aCX]
theorem aT9 (k:Nat) (x:Unit):vL k=fx xt aMN aCW Tryz.f12 aM2 (aA Tryz.f12) k x:=by kernel_rfl
theorem aST (K:Nat):aE Tryz.prog aCW K:=aI (X:=xt) (g:=aCW) (H:=aM2) (env:=aMN) (c:=aA Tryz.f12) aJ mixed (fun k=>(aB.cons (aTS k) aB.nil)) Tryz.func12 (by kernel_rfl) (by kernel_rfl) (by kernel_rfl) (aD.all aD.zero (by kernel_rfl) (by kernel_rfl)) aT9 K
def pU:aS:={ fid:=45,Γ:=[(.list false .tree),(.list false .tree)],args:=[(.var 0),(.var 1),(.fn 20 [] [])],Δ:=[.bool],res:=(.var 0),f:=fun k x=>rZ k x.1 x.2 }
def xA:aS:={ fid:=20,Γ:=[.tree,.tree],args:=[(.var 0),(.var 1)],Δ:=[.bool],res:=(.var 0),f:=fun k x=>tH k x.1 x.2 }
def vM:LH (Bool):={ Γ:=[(.list false .tree),(.list false .tree),(.int .i64)],live:=[(1,(.var 0)),(2,(.fn 20 [] [])),(15,(.var 1)),(16,(.len 1)),(17,(.var 2))],F:=fun k x=>gR k x.1 x.2.1 x.2.2 }
def aAf:aG (Bool):={ loops:=[(4,vM)] }
def aAA:List aS:=[xA]
theorem aLZ (k:Nat) (x:(List Tr)×(List Tr)):rZ (k+1) x.1 x.2=fx xt aAA pU Tryz.f45 aAf (aA Tryz.f45) k x:=(rZ.eq_def ..).trans (by kernel_rfl)
theorem aH4 (k:Nat) (x:(List Tr)×(List Tr)×Int):gR (k+1) x.1 x.2.1 x.2.2=iC xt aAA 32 0 aAf (aA Tryz.f45) (fY xt.T Tryz.f45.results pU) 0 vM k x:=(gR.eq_def ..).trans (by kernel_rfl)
def aN8:aG (Bool):={ ord:=[(3,[.l 0,.l 1,.l 2,.l 3,.l 4,.l 5,.l 6,.l 7,.l 8,.l 9,.l 10,.l 11,.l 12,.l 13,.l 14,.l 15,.l 16,.l 17,.l 18,.l 19,.l 20,.l 21,.l 22,.l 23,.l 24,.l 25,.l 26,.l 27,.l 28,.l 29,.l 30,.l 31,.l 32,.l 33,.l 34,.l 35,.l 36,.l 37,.l 38,.l 39,.l 40,.l 41,.l 42,.l 43,.l 44,.l 45,.l 46,.l 47,.l 48,.l 49,.l 50,.h 51,.l 52,.l 53])] }
def aOi:List aS:=[pU]
theorem aVn (k:Nat) (x:Tr×Tr):tH (k+1) x.1 x.2=fx xt aOi xA Tryz.f20 aN8 (aA Tryz.f20) k x:=(tH.eq_def ..).trans (by kernel_rfl)
theorem aKf (K:Nat):aE Tryz.prog pU K∧aE Tryz.prog xA K:=by
 induction K using Nat.strongRecOn with
 | ind K ih=>exact ⟨aZ (X:=xt) (g:=pU) (H:=aAf) (env:=aAA) (c:=aA Tryz.f45) aJ mixed (fun k hk=>(aB.cons (ih k hk).2 aB.nil)) Tryz.func45 (by kernel_rfl) (by kernel_rfl) (by kernel_rfl) (aD.all (aD.zero.succ vM (by kernel_rfl) (fun _=>rfl) aH4) (by kernel_rfl) (by kernel_rfl)) (fun _=>rfl) aLZ,aZ (X:=xt) (g:=xA) (H:=aN8) (env:=aOi) (c:=aA Tryz.f20) aJ mixed (fun k hk=>(aB.cons (ih k hk).1 aB.nil)) Tryz.func20 (by kernel_rfl) (by kernel_rfl) (by kernel_rfl) (aD.all aD.zero (by kernel_rfl) (by kernel_rfl)) (fun _=>rfl) aVn⟩
theorem aUV (K:Nat):aE Tryz.prog xA K:=(aKf K).2
def zD:aS:={ fid:=9,Γ:=[(.list false (.pair (.int .i64) (.pair (.int .i64) (.pair .str (.pair .str (.list false (.int .i64)))))))],args:=[(.agg [(.var 0)])],Δ:=[(.list false (.pair (.int .i64) (.pair (.int .i64) (.pair .str (.pair .str (.list false (.int .i64)))))))],res:=(.agg [(.var 0)]),f:=fun k x=>aDo k x }
def aDF:LH ((List (Int×Int×(List UInt8)×(List UInt8)×(List Int)))):={ Γ:=[(.list false (.pair (.int .i64) (.pair (.int .i64) (.pair .str (.pair .str (.list false (.int .i64))))))),(.int .i64),(.list false (.pair (.int .i64) (.pair (.int .i64) (.pair .str (.pair .str (.list false (.int .i64)))))))],live:=[(1,(.ptr [(.var 0)])),(2,(.ref 0 0)),(3,(.ref 1 0)),(4,(.var 1))],sto:=[(0,(.cells 24 1 [.nils] false)),(1,(.cells 24 1 [(.row 2 2)] false)),(2,(.list 51 2 none))],nk:=3,ad:=[.c 3 0 51 (.pair (.int .i64) (.pair (.int .i64) (.pair .str (.pair .str (.list false (.int .i64))))))],F:=fun k x=>mW k x.1 x.2.1 x.2.2 }
def aHj:aG ((List (Int×Int×(List UInt8)×(List UInt8)×(List Int)))):={ ord:=[(6,[.l 0,.l 1,.l 2,.l 3,.l 4,.l 5,.l 6,.l 7,.l 8,.l 9,.l 10,.l 11,.l 12,.l 13,.l 14,.h 15,.l 16,.h 17])],loops:=[(3,aDF)] }
def aHk:List aS:=[]
theorem aSC (k:Nat) (x:(List (Int×Int×(List UInt8)×(List UInt8)×(List Int)))):aDo k x=fx xt aHk zD Tryz.f9 aHj (aA Tryz.f9) k x:=by kernel_rfl
theorem aO6 (k:Nat) (x:(List (Int×Int×(List UInt8)×(List UInt8)×(List Int)))×Int×(List (Int×Int×(List UInt8)×(List UInt8)×(List Int)))):mW (k+1) x.1 x.2.1 x.2.2=iC xt aHk 55 0 aHj (aA Tryz.f9) (fY xt.T Tryz.f9.results zD) 0 aDF k x:=(mW.eq_def ..).trans (by kernel_rfl)
theorem aSL (K:Nat):aE Tryz.prog zD K:=aI (X:=xt) (g:=zD) (H:=aHj) (env:=aHk) (c:=aA Tryz.f9) aJ mixed (fun k=>aB.nil) Tryz.func9 (by kernel_rfl) (by kernel_rfl) (by kernel_rfl) (aD.all (aD.zero.succ aDF (by kernel_rfl) (fun _=>rfl) aO6) (by kernel_rfl) (by kernel_rfl)) aSC K
def sD:aS:={ fid:=78,Γ:=[(.list false .bool),.bool],args:=[(.var 0),(.var 1)],Δ:=[(.int .i64)],res:=(.var 0),f:=fun k x=>aBF k x.1 x.2 }
def aAh:LH (Int):={ Γ:=[(.list false .bool),.bool,(.int .i64)],live:=[(0,(.var 0)),(1,(.var 1)),(7,(.len 0)),(8,(.var 2))],F:=fun k x=>hY k x.1 x.2.1 x.2.2 }
def aCH:aG (Int):={ loops:=[(2,aAh)] }
def aCs:List aS:=[]
theorem aPq (k:Nat) (x:(List Bool)×Bool):aBF k x.1 x.2=fx xt aCs sD Tryz.f78 aCH (aA Tryz.f78) k x:=by kernel_rfl
theorem aKg (k:Nat) (x:(List Bool)×Bool×Int):hY (k+1) x.1 x.2.1 x.2.2=iC xt aCs 19 0 aCH (aA Tryz.f78) (fY xt.T Tryz.f78.results sD) 0 aAh k x:=(hY.eq_def ..).trans (by kernel_rfl)
theorem aN3 (K:Nat):aE Tryz.prog sD K:=aI (X:=xt) (g:=sD) (H:=aCH) (env:=aCs) (c:=aA Tryz.f78) aJ mixed (fun k=>aB.nil) Tryz.func78 (by kernel_rfl) (by kernel_rfl) (by kernel_rfl) (aD.all (aD.zero.succ aAh (by kernel_rfl) (fun _=>rfl) aKg) (by kernel_rfl) (by kernel_rfl)) aPq K
def rP:aS:={ fid:=46,Γ:=[(.list false .bool),.bool],args:=[(.var 0),(.var 1)],Δ:=[.bool],res:=(.var 0),f:=fun k x=>qY k x.1 x.2 }
def aDW:aG (Bool):={}
def aDX:List aS:=[sD]
theorem aKb (k:Nat) (x:(List Bool)×Bool):qY k x.1 x.2=fx xt aDX rP Tryz.f46 aDW (aA Tryz.f46) k x:=by kernel_rfl
theorem aJU (K:Nat):aE Tryz.prog rP K:=aI (X:=xt) (g:=rP) (H:=aDW) (env:=aDX) (c:=aA Tryz.f46) aJ mixed (fun k=>(aB.cons (aN3 k) aB.nil)) Tryz.func46 (by kernel_rfl) (by kernel_rfl) (by kernel_rfl) (aD.all aD.zero (by kernel_rfl) (by kernel_rfl)) aKb K
def wV:aS:={ fid:=21,Γ:=[(.list false (.pair (.int .i64) (.pair (.int .i64) (.pair .str (.pair .str (.list false (.int .i64)))))))],args:=[(.agg [(.var 0)])],Δ:=[.tree,(.int .i64)],res:=(.tup [(.var 0),(.var 1)]),f:=fun k x=>aFP k x }
def aEv:LH (Tr×Int):={ Γ:=[(.list false (.pair (.int .i64) (.pair (.int .i64) (.pair .str (.pair .str (.list false (.int .i64))))))),(.list false .tree),(.list false .bool),(.int .i64)],live:=[(4,(.var 0)),(5,(.row 0 1)),(6,(.row 1 2)),(29,(.var 0)),(30,(.len 0)),(31,(.var 3))],sto:=[(0,(.list 25 1 none)),(1,(.list 4 2 none))],nk:=2,F:=fun k x=>oS k x.1 x.2.1 x.2.2.1 x.2.2.2 }
def aFl:LH (Tr×Int):={ Γ:=[(.list false (.pair (.int .i64) (.pair (.int .i64) (.pair .str (.pair .str (.list false (.int .i64))))))),(.list false .tree),(.list false .bool),(.int .i64),(.int .i64),(.list false (.int .i64)),(.int .i64),(.int .i64),(.int .i64),.str,.str,(.list false .tree)],live:=[(4,(.var 0)),(5,(.row 0 1)),(6,(.row 1 2)),(7,(.var 3)),(9,(.ref 2 0)),(29,(.var 0)),(30,(.len 0)),(31,(.var 4)),(47,(.var 5)),(48,(.len 5)),(49,(.var 6))],sto:=[(0,(.list 25 1 none)),(1,(.list 4 2 none)),(2,(.cells 60 5 [(.var 7),(.var 8),(.var 9),(.var 10),(.row 3 11)] false)),(3,(.list 25 11 none))],nk:=4,ad:=[.c 9 4 25 .tree],F:=fun k x=>oO k x.1 x.2.1 x.2.2.1 x.2.2.2.1 x.2.2.2.2.1 x.2.2.2.2.2.1 x.2.2.2.2.2.2.1 x.2.2.2.2.2.2.2.1 x.2.2.2.2.2.2.2.2.1 x.2.2.2.2.2.2.2.2.2.1 x.2.2.2.2.2.2.2.2.2.2.1 x.2.2.2.2.2.2.2.2.2.2.2 }
def aD9:aG (Tr×Int):={ ord:=[(18,[.l 0,.l 1,.l 2,.l 3,.l 4,.l 5,.l 6,.l 7,.l 8,.l 9,.h 10,.l 11,.l 12,.h 13])],loops:=[(9,aEv),(13,aFl)],adr:=[(23,[.f 6])] }
def aEf:List aS:=[rP]
def aBk:XT:={ xt with objs:=[24,60]++xt.objs }
theorem aVm (k:Nat) (x:(List (Int×Int×(List UInt8)×(List UInt8)×(List Int)))):aFP k x=fx aBk aEf wV Tryz.f21 aD9 (aA Tryz.f21) k x:=by kernel_rfl
theorem aQy (k:Nat) (x:(List (Int×Int×(List UInt8)×(List UInt8)×(List Int)))×(List Tr)×(List Bool)×Int):oS (k+1) x.1 x.2.1 x.2.2.1 x.2.2.2=iC aBk aEf 99 0 aD9 (aA Tryz.f21) (fY xt.T Tryz.f21.results wV) 0 aEv k x:=(oS.eq_def ..).trans (by kernel_rfl)
theorem aPG (k:Nat) (x:(List (Int×Int×(List UInt8)×(List UInt8)×(List Int)))×(List Tr)×(List Bool)×Int×Int×(List Int)×Int×Int×Int×(List UInt8)×(List UInt8)×(List Tr)):oO (k+1) x.1 x.2.1 x.2.2.1 x.2.2.2.1 x.2.2.2.2.1 x.2.2.2.2.2.1 x.2.2.2.2.2.2.1 x.2.2.2.2.2.2.2.1 x.2.2.2.2.2.2.2.2.1 x.2.2.2.2.2.2.2.2.2.1 x.2.2.2.2.2.2.2.2.2.2.1 x.2.2.2.2.2.2.2.2.2.2.2=iC aBk aEf 99 0 aD9 (aA Tryz.f21) (fY xt.T Tryz.f21.results wV) 1 aFl k x:=(oO.eq_def ..).trans (by kernel_rfl)
theorem aU6 (K:Nat):aE Tryz.prog wV K:=aI (X:=aBk) (g:=wV) (H:=aD9) (env:=aEf) (c:=aA Tryz.f21) (show XOk Tryz.prog aBk from ⟨jM,aJ.tab⟩) mixed (fun k=>(aB.cons (aJU k) aB.nil)) Tryz.func21 (by kernel_rfl) (by kernel_rfl) (by kernel_rfl) (aD.all ((aD.zero.succ aEv (by kernel_rfl) (fun _=>rfl) aQy).succ aFl (by kernel_rfl) (fun _=>rfl) aPG) (by kernel_rfl) (by kernel_rfl)) aVm K
def aBV:aS:={ fid:=6,Γ:=[(.list false (.pair (.int .i64) (.pair (.int .i64) (.pair .str (.pair .str (.list false (.int .i64)))))))],args:=[(.agg [(.var 0)])],Δ:=[.bool],res:=(.var 0),f:=fun k x=>uJ k x }
def aGH:aG (Bool):={}
def aGm:List aS:=[zD,wV,aIX,aCW,uP,xA]
theorem aNA (k:Nat) (x:(List (Int×Int×(List UInt8)×(List UInt8)×(List Int)))):uJ k x=fx xt aGm aBV Tryz.f6 aGH (aA Tryz.f6) k x:=by kernel_rfl
theorem aNV (K:Nat):aE Tryz.prog aBV K:=aI (X:=xt) (g:=aBV) (H:=aGH) (env:=aGm) (c:=aA Tryz.f6) aJ mixed (fun k=>(aB.cons (aSL k) (aB.cons (aU6 k) (aB.cons (aMx k) (aB.cons (aST k) (aB.cons (aJ6 k) (aB.cons (aUV k) aB.nil))))))) Tryz.func6 (by kernel_rfl) (by kernel_rfl) (by kernel_rfl) (aD.all aD.zero (by kernel_rfl) (by kernel_rfl)) aNA K
end Go.Proofs.YtjhfgiieicloeaaGreatDoor

