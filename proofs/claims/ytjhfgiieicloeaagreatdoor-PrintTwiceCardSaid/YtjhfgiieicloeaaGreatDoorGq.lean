/- Joined texts: A1, A2, A3, A4, A9, S1, S2, S3, S4, S5, S5b, Pr0, E0. -/
import Derived.Test.YtjhfgiieicloeaaGreatDoorGp
import Derived.Test.YtjhfgiieicloeaaGreatDoorGf
/- Plain facts of trees, part 1: size, depth. -/
namespace Go.Proofs.YtjhfgiieicloeaaGreatDoor
open Go Go.Am Go.Sx
def kindOf:Tr→Int
 | .nil=>0
 | .node k _ _ _ _=>k
def oK:Tr→Nat
 | .nil=>0
 | .node _ _ _ _ ks=>1+go ks
where go:List Tr→Nat
 | []=>0
 | k :: ks=>oK k+go ks
abbrev aKf (l:List Tr):Nat:=oK.go l
theorem aPO:aKf []=0:=by simp [oK.go]
theorem aIq (k:Tr) (ks:List Tr):aKf (k :: ks)=oK k+aKf ks:=by simp [oK.go]
theorem aPe:oK .nil=0:=by simp [oK]
theorem aFV {k n nm mk ks}:oK (Tr.node k n nm mk ks)=1+aKf ks:=by simp [oK]
theorem aRN:∀ {l:List Tr},(∀ x∈l,oK x≤x.w)→aKf l≤wL l
 | [],_=>by simp [aPO,aI]
 | k :: l,h=>by
  rw [aIq,aC]
  have:=h k List.mem_cons_self
  have:=aRN (l:=l) fun x hx=>h x (List.mem_cons_of_mem _ hx)
  omega
theorem aPP:∀ {l:List Tr} {x:Tr},x∈l→oK x≤aKf l
 | k :: l,x,hx=>by
  rw [aIq]
  rcases List.mem_cons.1 hx with rfl | hx
  ·omega
  ·have:=aPP hx; omega
theorem aWP:∀ t:Tr,oK t≤t.w:=Tr.ind (by simp [aPe]) fun k n nm mk ks ih=>by
 rw [aFV,aH]; have:=aRN ih; omega
def pR:Tr→Nat
 | .nil=>0
 | .node _ _ _ _ ks=>go ks 0+1
where go:List Tr→Nat→Nat
 | [],d=>d
 | k :: ks,d=>go ks (max d (pR k))
abbrev aQi (l:List Tr) (d:Nat):Nat:=pR.go l d
theorem aO4 (d:Nat):aQi [] d=d:=by simp [pR.go]
theorem aIp (k:Tr) (ks:List Tr) (d:Nat):aQi (k :: ks) d=aQi ks (max d (pR k)):=by simp [pR.go]
theorem aUR:pR .nil=0:=by simp [pR]
theorem aH7 {k n nm mk ks}:pR (Tr.node k n nm mk ks)=aQi ks 0+1:=by simp [pR]
theorem aXG:∀ {l:List Tr} (d:Nat),(∀ x∈l,pR x≤x.w)→aQi l d≤d+wL l
 | [],d,_=>by simp [aO4,aI]
 | k :: l,d,h=>by
  rw [aIp,aC]
  have:=h k List.mem_cons_self
  have:=aXG (l:=l) (max d (pR k)) fun x hx=>h x (List.mem_cons_of_mem _ hx)
  omega
theorem aW0:∀ {l:List Tr} {d:Nat},d≤aQi l d
 | [],d=>by rw [aO4]; omega
 | y :: l,d=>by rw [aIp]; have:=aW0 (l:=l) (d:=max d (pR y)); omega
theorem aP1:∀ {l:List Tr} {x:Tr} {d:Nat},x∈l→pR x≤aQi l d
 | y :: l,x,d,h=>by
  rw [aIp]
  rcases List.mem_cons.1 h with rfl | hx
  ·have:=aW0 (l:=l) (d:=max d (pR x)); omega
  ·exact aP1 hx
theorem bCl:∀ t:Tr,pR t≤t.w:=Tr.ind (by simp [aUR]) fun k n nm mk ks ih=>by
 rw [aH7,aH]; have:=aXG 0 ih; omega
theorem aTq {k n nm mk ks} (h:(Tr.node k n nm mk ks).w≤1099511627776):wL ks≤1099511627776∧ks.length≤1099511627776:=by
 rw [aH] at h
 have:=aCR ks
 omega
theorem aWq {ks:List Tr} (hl:ks.length≤1099511627776) (ih:∀ x∈ks,Ev (fun K=>rO K x) (oK x:Int)):∀ (m i s:Nat),ks.length=i+m→s+aKf (ks.drop i)≤2 * 1099511627776 →
  Ev (fun K=>pE K (s:Int) ks (i:Int)) ((s+aKf (ks.drop i):Nat):Int):=by
 intro m
 induction m with
 | zero =>
  intro i s hi hs
  refine Ev.step (fun k=>by rw [pE]) ?_
  refine Ev.dF (by omega) (Ev.pure' ?_)
  rw [List.drop_of_length_le (by omega),aPO]; rfl
 | succ m ihm =>
  intro i s hi hs
  have hlt:i<ks.length:=by omega
  rw [kM hlt,aIq] at hs ⊢
  refine Ev.step (fun k=>by rw [pE]) ?_
  refine Ev.dT (by omega) (Ev.opt (eM hlt) (Ev.bind (ih _ (List.getElem_mem hlt)) ?_))
  rw [dE (by omega),fP (by omega) (by omega)]
  have:=ihm (i+1) (s+oK ks[i]) (by omega) (by omega)
  rw [Int.natCast_add] at this
  rw [show s+(oK ks[i]+aKf (ks.drop (i+1)))=s+oK ks[i]+aKf (ks.drop (i+1)) by omega]
  exact this
theorem aZP:∀ t:Tr,t.w≤1099511627776→Ev (fun K=>rO K t) (oK t:Int):=Tr.ind
 (fun _=>Ev.step (fun k=>by rw [rO]) (Ev.pure' (by simp [aPe])))
 fun k n nm mk ks ih h=>by
  obtain ⟨h1,h2⟩:=aTq h
  refine Ev.step (fun k=>by rw [rO]) ?_
  have:=aWq h2 (fun x hx=>ih x hx (by have:=aB1 hx; omega)) ks.length 0 1 (by omega) (by
   have:=aRN (l:=ks) fun x _=>aWP x
   simp only [List.drop_zero]; omega)
  rw [aFV]
  simpa using this
theorem aVp {ks:List Tr} (hl:ks.length≤1099511627776) (ih:∀ x∈ks,Ev (fun K=>mD K x) (pR x:Int)):∀ (m i d:Nat),ks.length=i+m→d+wL (ks.drop i)≤2 * 1099511627776 →
  Ev (fun K=>oV K (d:Int) ks (i:Int)) ((aQi (ks.drop i) d+1:Nat):Int):=by
 intro m
 induction m with
 | zero =>
  intro i d hi hs
  refine Ev.step (fun k=>by rw [oV]) ?_
  refine Ev.dF (by omega) (Ev.pure' ?_)
  rw [List.drop_of_length_le (by omega),aO4,dE (by omega)]
 | succ m ihm =>
  intro i d hi hs
  have hlt:i<ks.length:=by omega
  rw [kM hlt,aC] at hs
  rw [kM hlt,aIp]
  refine Ev.step (fun k=>by rw [oV]) ?_
  refine Ev.dT (by omega) (Ev.opt (eM hlt) (Ev.bind (ih _ (List.getElem_mem hlt)) ?_))
  have hd:=bCl ks[i]
  rw [dE (by omega),show (if (d:Int)<(pR ks[i]:Int) then (pR ks[i]:Int) else (d:Int))=((max d (pR ks[i]):Nat):Int) by split <;> omega]
  exact ihm (i+1) _ (by omega) (by omega)
theorem aZw:∀ t:Tr,t.w≤1099511627776→Ev (fun K=>mD K t) (pR t:Int):=Tr.ind
 (fun _=>Ev.step (fun k=>by rw [mD]) (Ev.pure' (by simp [aUR])))
 fun k n nm mk ks ih h=>by
  obtain ⟨h1,h2⟩:=aTq h
  refine Ev.step (fun k=>by rw [mD]) ?_
  have:=aVp h2 (fun x hx=>ih x hx (by have:=aB1 hx; omega)) ks.length 0 0 (by omega) (by simp only [List.drop_zero]; omega)
  rw [aH7]
  simpa using this
end Go.Proofs.YtjhfgiieicloeaaGreatDoor

/- Plain facts of trees, part 2: few cells, no nil, packing. -/
namespace Go.Proofs.YtjhfgiieicloeaaGreatDoor
open Go Go.Am Go.Sx
def vI:Tr→Bool
 | .nil=>false
 | .node _ _ _ _ ks=>go ks
where go:List Tr→Bool
 | []=>true
 | k :: ks=>vI k && go ks
abbrev aRO (l:List Tr):Bool:=vI.go l
theorem aUN:aRO []=true:=by simp [vI.go]
theorem aSC (k:Tr) (ks:List Tr):aRO (k :: ks)=(vI k && aRO ks):=by simp [vI.go]
theorem aUC:vI .nil=false:=by simp [vI]
theorem aM9 {k n nm mk ks}:vI (Tr.node k n nm mk ks)=aRO ks:=by simp [vI]
theorem aPm:∀ {l:List Tr},aRO l=true↔∀ x∈l,vI x=true
 | []=>by simp [aUN]
 | k :: l=>by rw [aSC,Bool.and_eq_true,aPm]; simp
theorem aRZ {p:List Tr} (hl:p.length≤1099511627776) (ih:∀ x∈p,Ev (fun K=>qP K x) (vI x)):∀ (m i:Nat),p.length=i+m →
  ∃ r:Int,Ev (fun K=>fD K p (i:Int)) r∧decide (0≤r)=!aRO (p.drop i):=by
 intro m
 induction m with
 | zero =>
  intro i hi
  refine ⟨-1,?_,?_⟩
  ·refine Ev.step (fun k=>by rw [fD]) ?_
   exact Ev.dF (by omega) Ev.pure
  ·rw [List.drop_of_length_le (by omega),aUN]; rfl
 | succ m ihm =>
  intro i hi
  have hlt:i<p.length:=by omega
  have hw:Ev (fun K=>uS K p[i]) (!vI p[i]):=Ev.step (fun k=>by rw [uS]) (Ev.bind (ih _ (List.getElem_mem hlt)) Ev.pure)
  rw [kM hlt,aSC]
  cases hf:vI p[i] with
  | false =>
   refine ⟨i,?_,by simp⟩
   refine Ev.step (fun k=>by rw [fD]) ?_
   refine Ev.dT (by omega) (Ev.opt (eM hlt) (Ev.bind hw ?_))
   rw [hf]
   exact Ev.isT rfl Ev.pure
  | true =>
   obtain ⟨r,h1,h2⟩:=ihm (i+1) (by omega)
   refine ⟨r,?_,by simpa using h2⟩
   refine Ev.step (fun k=>by rw [fD]) ?_
   refine Ev.dT (by omega) (Ev.opt (eM hlt) (Ev.bind hw ?_))
   rw [hf,dE (by omega)]
   exact Ev.isF (by simp) h1
theorem bCX:∀ t:Tr,t.w≤1099511627776→Ev (fun K=>qP K t) (vI t):=Tr.ind
 (fun _=>Ev.step (fun k=>by rw [qP]) (Ev.pure' aUC.symm))
 fun k n nm mk ks ih h=>by
  obtain ⟨h1,h2⟩:=aTq h
  refine Ev.step (fun k=>by rw [qP]) ?_
  obtain ⟨r,g1,g2⟩:=aRZ h2 (fun x hx=>ih x hx (by have:=aB1 hx; omega)) ks.length 0 (by omega)
  refine Ev.bind (a:=!aRO ks) ?_ (Ev.pure' (by rw [aM9,Bool.not_not]))
  refine Ev.step (fun k=>by rw [slices_ContainsFunc]) (Ev.bind (a:=r) (Ev.step (fun k=>by rw [slices_IndexFunc]; rfl) g1) (Ev.pure' (by simpa using g2)))
def qD:Tr→Nat→List Cell
 | .nil,_=>[]
 | .node k n nm mk ks,f=>(go ks f [] []).2++[⟨k,n,nm,mk,(go ks f [] []).1⟩]
where go:List Tr→Nat→List Int→List Cell→List Int×List Cell
 | [],_,kids,out=>(kids,out)
 | t :: ts,f,kids,out=>go ts f (kids++[((f+(out++qD t (f+out.length)).length:Nat):Int) - 1]) (out++qD t (f+out.length))
abbrev aGC (l:List Tr) (f:Nat) (kids:List Int) (out:List Cell):List Int×List Cell:=qD.go l f kids out
theorem aRG (f:Nat) (kids:List Int) (out:List Cell):aGC [] f kids out=(kids,out):=by simp [qD.go]
theorem aQh (t:Tr) (ts:List Tr) (f:Nat) (kids:List Int) (out:List Cell) :
  aGC (t :: ts) f kids out=aGC ts f (kids++[((f+(out++qD t (f+out.length)).length:Nat):Int) - 1]) (out++qD t (f+out.length)):=by simp [qD.go]
theorem aYc (f:Nat):qD .nil f=[]:=by simp [qD]
theorem aQe {k n nm mk ks} (f:Nat):qD (Tr.node k n nm mk ks) f=(aGC ks f [] []).2++[⟨k,n,nm,mk,(aGC ks f [] []).1⟩]:=by simp [qD]
theorem aRA:∀ {l:List Tr} (f:Nat) (kids:List Int) (out:List Cell),(∀ x∈l,∀ f,(qD x f).length=oK x)→(aGC l f kids out).2.length=out.length+aKf l
 | [],f,kids,out,_=>by simp [aRG,aPO]
 | t :: l,f,kids,out,h=>by
  rw [aQh,aIq,aRA (l:=l) _ _ _ fun x hx=>h x (List.mem_cons_of_mem _ hx),List.length_append,h t List.mem_cons_self]
  omega
theorem aYN:∀ (t:Tr) (f:Nat),(qD t f).length=oK t:=Tr.ind (by simp [aYc,aPe]) fun k n nm mk ks ih f=>by
 rw [aQe,aFV,List.length_append,aRA _ _ _ ih]; simp; omega
theorem aXw {a b:Int} {nm mk:List UInt8} {ks:List Tr} {acc:List Cell} (hl:ks.length≤1099511627776)
  (ih:∀ x∈ks,∀ acc:List Cell,acc.length+x.w≤1099511627776→Ev (fun K=>qW K x acc) ((((acc++qD x acc.length).length:Nat):Int) - 1,acc++qD x acc.length)):∀ (m i:Nat) (kids:List Int) (out:List Cell),ks.length=i+m→kids.length=i→acc.length+out.length+wL (ks.drop i)≤1099511627776 →
  Ev (fun K=>lM K ks (i:Int) (acc++out) a b nm mk kids) ((((acc++((aGC (ks.drop i) acc.length kids out).2++[(⟨a,b,nm,mk,(aGC (ks.drop i) acc.length kids out).1⟩:Cell)])).length:Nat):Int) - 1,acc++((aGC (ks.drop i) acc.length kids out).2++[⟨a,b,nm,mk,(aGC (ks.drop i) acc.length kids out).1⟩])):=by
 intro m
 induction m with
 | zero =>
  intro i kids out hi hk ho
  refine Ev.step (fun k=>by rw [lM]) ?_
  have hd:ks.drop i=[]:=List.drop_of_length_le (by omega)
  rw [hd] at ho ⊢
  rw [aRG]
  refine Ev.dF (by omega) (Ev.opt (dP (by simp; omega)) (Ev.pure' ?_))
  rw [fP (by simp; omega) (by simp; omega),List.append_assoc]
 | succ m ihm =>
  intro i kids out hi hk ho
  have hlt:i<ks.length:=by omega
  rw [kM hlt,aC] at ho
  rw [kM hlt,aQh]
  have hc:=aYN ks[i] (acc.length+out.length)
  have hs:=aWP ks[i]
  have hw:=aU5 ks[i]
  refine Ev.step (fun k=>by rw [lM]) ?_
  refine Ev.dT (by omega) (Ev.opt (eM hlt) ?_)
  refine Ev.bind (ih _ (List.getElem_mem hlt) (acc++out) (by simp; omega)) ?_
  have hlen:(out++qD ks[i] (acc.length+out.length)).length=out.length+oK ks[i]:=by rw [List.length_append,hc]
  refine Ev.opt (dP (by simp; omega)) ?_
  rw [dE (by omega)]
  have:=ihm (i+1) (kids++[((acc.length+(out++qD ks[i] (acc.length+out.length)).length:Nat):Int) - 1]) (out++qD ks[i] (acc.length+out.length)) (by omega) (by simp [hk]) (by omega)
  simpa [Nat.add_assoc] using this
theorem bHF:∀ t:Tr,vI t=true→∀ acc:List Cell,acc.length+t.w≤1099511627776→Ev (fun K=>qW K t acc) ((((acc++qD t acc.length).length:Nat):Int) - 1,acc++qD t acc.length):=Tr.ind
 (fun h=>by rw [aUC] at h; cases h)
 fun k n nm mk ks ih h acc hf=>by
  rw [aM9] at h
  rw [aH] at hf
  have hl:=aCR ks
  refine Ev.step (fun k=>by rw [qW]) ?_
  have:=aXw (a:=k) (b:=n) (nm:=nm) (mk:=mk) (acc:=acc) (by omega) (fun x hx f' hf'=>ih x hx (aPm.1 h x hx) f' hf') ks.length 0 [] [] (by omega) rfl (by simp; omega)
  rw [aQe]
  simpa using this
def aIP (t:Tr):List Cell×Int:=if vI t=true then (if 8192<oK t then ([],3) else (qD t 0,0)) else ([],1)
theorem bE9 (t:Tr) (h:t.w≤1099511627776):Ev (fun K=>wO K t) (aIP t):=by
 unfold wO aIP
 refine Ev.bind (bCX t h) ?_
 by_cases hf:vI t=true
 ·rw [if_pos hf]
  refine Ev.isF (by simp [hf]) (Ev.bind (aZP t h) ?_)
  by_cases hz:8192<oK t
  ·rw [if_pos hz]; exact Ev.dT (by omega) Ev.pure
  ·rw [if_neg hz]
   refine Ev.dF (by omega) (Ev.bind (bHF t hf [] (by simpa using h)) (Ev.pure' ?_))
   simp
 ·rw [if_neg hf]
  exact Ev.isT (by simp [hf]) Ev.pure
end Go.Proofs.YtjhfgiieicloeaaGreatDoor

/- Plain facts of trees, part 3: what cells are opened to. -/
namespace Go.Proofs.YtjhfgiieicloeaaGreatDoor
open Go Go.Am Go.Sx
def bJs (p:List Cell) (n:Nat):Prop:=∀ (i:Nat) (h:i<p.length),i<n→∀ k∈p[i].2.2.2.2,0≤k∧k<i
end Go.Proofs.YtjhfgiieicloeaaGreatDoor

/- Plain facts of trees, part 4: an opened tree is whole and as large as its cells. -/
namespace Go.Proofs.YtjhfgiieicloeaaGreatDoor
open Go Go.Am Go.Sx
end Go.Proofs.YtjhfgiieicloeaaGreatDoor

/- Plain facts of trees, part 9: the program's way to open cells. -/
namespace Go.Proofs.YtjhfgiieicloeaaGreatDoor
open Go Go.Am Go.Sx

end Go.Proofs.YtjhfgiieicloeaaGreatDoor

/- Shapes, part 1: what a tree of a category is, by the table. -/
namespace Go.Proofs.YtjhfgiieicloeaaGreatDoor
open Go Go.Am Go.Sx

inductive Good:Tr→Prop
 | mk {k n nm mk ks} (h1:nm.length≤1099511627776) (h2:mk.length≤1099511627776) (h3:ks.length≤1099511627776) (h4:∀ x∈ks,Good x):Good (.node k n nm mk ks)

abbrev Row:=Int×Int×List UInt8×List UInt8×Int×Int×List UInt8
def aSk:List Row:=([(1,1,([]:List UInt8),([]:List UInt8),0,0,([]:List UInt8)),(1,2,([]:List UInt8),([]:List UInt8),0,0,([]:List UInt8)),(1,3,([]:List UInt8),([]:List UInt8),0,0,([]:List UInt8)),(1,4,([108]:List UInt8),([]:List UInt8),0,0,([]:List UInt8)),(1,5,([]:List UInt8),([]:List UInt8),0,0,([116,116]:List UInt8)),(1,6,([]:List UInt8),([]:List UInt8),0,0,([116,116]:List UInt8)),(1,7,([110]:List UInt8),([]:List UInt8),0,0,([67]:List UInt8)),(2,20,([]:List UInt8),([]:List UInt8),(IntKind.i64.wrap (0 - 1073741824)),1073741824,([]:List UInt8)),(2,21,([]:List UInt8),([]:List UInt8),0,1,([]:List UInt8)),(2,22,([]:List UInt8),([]:List UInt8),0,0,([]:List UInt8)),(2,23,([108]:List UInt8),([]:List UInt8),0,0,([]:List UInt8)),(2,24,([110]:List UInt8),([]:List UInt8),0,0,([116,101]:List UInt8)),(2,25,([]:List UInt8),([]:List UInt8),0,0,([101,101]:List UInt8)),(2,26,([]:List UInt8),([]:List UInt8),0,0,([101,101]:List UInt8)),(2,27,([]:List UInt8),([]:List UInt8),0,0,([101]:List UInt8)),(2,28,([]:List UInt8),([]:List UInt8),0,0,([101]:List UInt8)),(2,29,([110]:List UInt8),([]:List UInt8),0,0,([101,101]:List UInt8)),(2,30,([]:List UInt8),([]:List UInt8),0,0,([101,101,101]:List UInt8)),(2,31,([]:List UInt8),([]:List UInt8),1,5,([101,101]:List UInt8)),(2,32,([]:List UInt8),([]:List UInt8),0,0,([101,65]:List UInt8)),(2,33,([]:List UInt8),([]:List UInt8),0,0,([101,116,65]:List UInt8)),(3,40,([]:List UInt8),([]:List UInt8),0,0,([42,105]:List UInt8)),(3,41,([108]:List UInt8),([]:List UInt8),0,0,([]:List UInt8)),(3,42,([110]:List UInt8),([]:List UInt8),0,0,([109]:List UInt8)),(3,43,([]:List UInt8),([]:List UInt8),0,1,([109,115]:List UInt8)),(4,50,([]:List UInt8),([]:List UInt8),0,0,([42,112]:List UInt8)),(4,51,([110]:List UInt8),([]:List UInt8),0,0,([]:List UInt8)),(4,52,([108]:List UInt8),([]:List UInt8),0,0,([115,116]:List UInt8)),(5,60,([110]:List UInt8),([]:List UInt8),0,0,([116]:List UInt8)),(5,61,([110]:List UInt8),([]:List UInt8),0,0,([116]:List UInt8)),(5,61,([110]:List UInt8),([]:List UInt8),0,0,([]:List UInt8)),(5,62,([110]:List UInt8),([]:List UInt8),0,0,([67]:List UInt8)),(5,63,([110]:List UInt8),([]:List UInt8),0,0,([115]:List UInt8)),(5,64,([]:List UInt8),([]:List UInt8),0,0,([115]:List UInt8)),(5,65,([108]:List UInt8),([108]:List UInt8),0,0,([]:List UInt8)),(6,70,([110]:List UInt8),([]:List UInt8),0,0,([101]:List UInt8)),(6,70,([110]:List UInt8),([]:List UInt8),0,0,([116,101]:List UInt8)),(6,71,([110]:List UInt8),([]:List UInt8),0,0,([116]:List UInt8)),(6,72,([110]:List UInt8),([]:List UInt8),0,0,([67]:List UInt8)),(6,73,([110]:List UInt8),([]:List UInt8),0,0,([109]:List UInt8)),(6,74,([110]:List UInt8),([]:List UInt8),0,0,([115]:List UInt8)),(6,75,([110]:List UInt8),([110]:List UInt8),0,0,([115,109]:List UInt8)),(6,76,([108]:List UInt8),([]:List UInt8),0,0,([]:List UInt8)),(6,77,([108]:List UInt8),([]:List UInt8),0,0,([]:List UInt8)),(7,80,([]:List UInt8),([]:List UInt8),0,0,([42,100]:List UInt8)),(8,8,([110]:List UInt8),([]:List UInt8),0,0,([116]:List UInt8)),(9,34,([110]:List UInt8),([110]:List UInt8),0,0,([101]:List UInt8))]:List (Int×Int×(List UInt8)×(List UInt8)×Int×Int×(List UInt8)))
def aMy (s what:List UInt8):Bool:=if what=[110] then fH s else if what=[108] then lgS s else decide (s=[])
def catS (c:UInt8):Int:=if c=116 then 1 else if c=101 then 2 else if c=109 then 3 else if c=115 then 4 else if c=112 then 5 else 6
def jV (is8:Tr→Bool):List (List UInt8)→List Tr→Bool
 | _,[]=>true
 | seen,k :: ks=>is8 k && (!decide (nameOf k∈seen) && jV is8 (seen++[nameOf k]) ks)
def aGY (c:UInt8) (x:Tr):Bool:=!(decide (c=105) && (decide (kindOf x=74) || decide (kindOf x=75)))
def cF (is:Int→Tr→Bool):List UInt8→List Tr→Bool
 | [],l=>decide (l.length=0)
 | c :: w,l =>
  if c=42 then l.all fun x=>is (catS (w.headD 0)) x && aGY (w.headD 0) x
  else if c=67 then jV (is 8) [] l && decide (0<l.length)
  else if c=65 then l.all (is 9) && decide (0<l.length)
  else match l with
   | []=>false
   | k :: ks=>is (catS c) k && cF is w ks
def dM (is:Int→Tr→Bool) (n:Int) (nm mk:List UInt8) (ks:List Tr) (r:Row):Bool :=
 aMy nm r.2.2.1 && (aMy mk r.2.2.2.1 && (decide (r.2.2.2.2.1≤n) && (decide (n≤r.2.2.2.2.2.1) && cF is r.2.2.2.2.2.2 ks)))
def aXS (is:Int→Tr→Bool) (c:Int) (t:Tr) (r:Row):Bool:=match t with
 | .nil=>false
 | .node k n nm mk ks=>decide (r.1=c) && (decide (r.2.1=k) && dM is n nm mk ks r)
def isF:Nat→Int→Tr→Bool
 | 0,_,_=>false
 | m+1,c,t=>aSk.any (aXS (isF m) c t)
theorem aOy {f g:Tr→Bool}:∀ (l:List Tr) (s:List (List UInt8)),(∀ x∈l,f x=g x)→jV f s l=jV g s l
 | [],_,_=>rfl
 | k :: ks,s,h=>by
  unfold jV
  rw [h k List.mem_cons_self,aOy ks _ fun x hx=>h x (List.mem_cons_of_mem _ hx)]
theorem aCo {f g:Tr→Bool}:∀ (l:List Tr),(∀ x∈l,f x=g x)→l.all f=l.all g
 | [],_=>rfl
 | k :: ks,h=>by rw [List.all_cons,List.all_cons,h k List.mem_cons_self,aCo ks fun x hx=>h x (List.mem_cons_of_mem _ hx)]
theorem aP8 {f g:Int→Tr→Bool}:∀ (w:List UInt8) (l:List Tr),(∀ x∈l,∀ c,f c x=g c x)→cF f w l=cF g w l
 | [],_,_=>rfl
 | c :: w,l,h=>by
  unfold cF
  split
  ·exact aCo l fun x hx=>by rw [h x hx]
  ·split
   ·rw [aOy l [] fun x hx=>h x hx 8]
   ·split
    ·rw [aCo l fun x hx=>h x hx 9]
    ·cases l with
     | nil=>rfl
     | cons k ks=>simp only []; rw [h k List.mem_cons_self,aP8 w ks fun x hx=>h x (List.mem_cons_of_mem _ hx)]
theorem aTc {f g:Int→Tr→Bool} {c k n:Int} {nm mk:List UInt8} {ks:List Tr} (h:∀ x∈ks,∀ c,f c x=g c x) (r:Row):aXS f c (.node k n nm mk ks) r=aXS g c (.node k n nm mk ks) r:=by
 unfold aXS dM
 simp only []
 rw [aP8 _ _ h]
theorem bCS:∀ (m m':Nat) (t:Tr) (c:Int),t.w≤m→t.w≤m'→isF m c t=isF m' c t:=by
 intro m
 induction m with
 | zero=>intro m' t c h; have:=aU5 t; omega
 | succ m ih =>
  intro m' t c h h'
  have:=aU5 t
  obtain ⟨q,rfl⟩:∃ q,m'=q+1:=⟨m' - 1,by omega⟩
  unfold isF
  congr 1
  funext r
  cases t with
  | nil=>rfl
  | node k n nm mk ks =>
   rw [aH] at h h'
   exact aTc (fun x hx c=>ih q x c (by have:=aB1 hx; omega) (by have:=aB1 hx; omega)) r
def isT (c:Int) (t:Tr):Bool:=isF t.w c t
theorem bCN (c:Int) (t:Tr):isT c t=aSk.any (aXS isT c t):=by
 have:=aU5 t
 obtain ⟨q,hq⟩:∃ q,t.w=q+1:=⟨t.w - 1,by omega⟩
 show isF t.w c t=aSk.any (aXS isT c t)
 rw [hq]
 show aSk.any (aXS (isF q) c t)=_
 congr 1
 funext r
 cases t with
 | nil=>rfl
 | node k n nm mk ks =>
  rw [aH] at hq
  exact aTc (ks:=ks) (fun x hx c=>bCS q x.w x c (by have:=aB1 hx; omega) (Nat.le_refl _)) r
def sel (c k:Int):List Row:=aSk.filter fun r=>decide (r.1=c) && decide (r.2.1=k)
theorem aZJ (f:Row→Bool) (c k:Int):∀ l:List Row,(l.any fun r=>decide (r.1=c) && (decide (r.2.1=k) && f r))=(l.filter fun r=>decide (r.1=c) && decide (r.2.1=k)).any f
 | []=>rfl
 | r :: l=>by
  rw [List.any_cons,List.filter_cons,aZJ f c k l]
  cases h1:decide (r.1=c) <;> cases h2:decide (r.2.1=k) <;> simp
theorem aVW {c k n:Int} {nm mk:List UInt8} {ks:List Tr}:isT c (.node k n nm mk ks)=(sel c k).any (dM isT n nm mk ks):=by
 rw [bCN]
 exact aZJ _ c k aSk
def eN (c:Int):List Int:=(aSk.filter fun r=>decide (r.1=c)).map fun r=>r.2.1
theorem bBh {c k:Int} (h:k∉eN c):sel c k=[]:=by
 unfold sel
 rw [List.filter_eq_nil_iff]
 intro r hr hx
 simp only [Bool.and_eq_true,decide_eq_true_eq] at hx
 apply h
 unfold eN
 rw [List.mem_map]
 exact ⟨r,List.mem_filter.2 ⟨hr,by simp [hx.1]⟩,hx.2⟩
theorem lY {c k n:Int} {nm mk:List UInt8} {ks:List Tr} (h:k∉eN c):isT c (.node k n nm mk ks)=false:=by
 rw [aVW,bBh h]; rfl
theorem aV4 (c:Int):isT c .nil=false:=by
 rw [bCN]
 exact List.any_eq_false.2 fun r _=>by simp [aXS]
end Go.Proofs.YtjhfgiieicloeaaGreatDoor

/- Shapes, part 2: the document's answer is the table's. -/
namespace Go.Proofs.YtjhfgiieicloeaaGreatDoor
open Go Go.Am Go.Sx

end Go.Proofs.YtjhfgiieicloeaaGreatDoor

/- Shapes, part 3: the program's types and expressions are the table's. -/
namespace Go.Proofs.YtjhfgiieicloeaaGreatDoor
open Go Go.Am Go.Sx

def fR (a b c:Bool) (n:Int) (nm mk:List UInt8):Bool:=(a || decide (nm=[])) && ((b || decide (mk=[])) && (c || decide (n=0)))
theorem dQ (a b c:Bool) (k n:Int) (nm mk:List UInt8) (ks:List Tr):Ev (fun K=>bK K (.node k n nm mk ks) a b c) (fR a b c n nm mk):=by
 refine Ev.congr (f:=fun K=>_) ?_ (fun K=>by rw [bK])
 unfold fR
 cases a <;> cases b <;> cases c <;> simp only [iteS] <;> first
  | exact Ev.pure' (by simp)
  | (by_cases h:nm=[] <;> by_cases h':mk=[] <;> simp only [h,h',decide_true,decide_false] <;> exact Ev.pure' (by simp))

def k1S (p:Tr→Bool):List Tr→Bool
 | [x]=>p x
 | _=>false
def k2S (p q:Tr→Bool):List Tr→Bool
 | [x,y]=>p x && q y
 | _=>false
section
variable {is:Int→Tr→Bool}
theorem aBQ {a:UInt8} {c:Int} (h1:a≠42) (h2:a≠67) (h3:a≠65) (hc:catS a=c) (l:List Tr):cF is [a] l=k1S (is c) l:=by
 subst hc
 unfold cF
 rw [if_neg h1,if_neg h2,if_neg h3]
 match l with
 | []=>rfl
 | [x]=>simp [cF,k1S]
 | x :: y :: r=>simp [cF,k1S]
theorem rQ {a b:UInt8} {c d:Int} (h1:a≠42) (h2:a≠67) (h3:a≠65) (g1:b≠42) (g2:b≠67) (g3:b≠65) (hc:catS a=c) (hd:catS b=d) (l:List Tr):cF is [a,b] l=k2S (is c) (is d) l:=by
 subst hc hd
 unfold cF
 rw [if_neg h1,if_neg h2,if_neg h3]
 match l with
 | []=>rfl
 | [x]=>simp [aBQ g1 g2 g3 rfl,k1S,k2S]
 | [x,y]=>simp [aBQ g1 g2 g3 rfl,k1S,k2S]
 | x :: y :: z :: r=>simp [aBQ g1 g2 g3 rfl,k1S,k2S]
end
theorem aGv (k n:Int) (nm mk:List UInt8) (ks:List Tr):Ev (fun K=>iC K (.node k n nm mk ks)) (decide (ks.length=0)):=by
 refine Ev.congr (f:=fun K=>_) ?_ (fun K=>by rw [iC])
 refine Ev.n (fun h=>Ev.pure' ?_) (fun h=>Ev.step (fun k=>by rw [zM]) (Ev.pure' ?_))
 ·rw [decide_eq_false (by omega)]
 ·rw [decide_eq_true (by omega)]
section
variable {ks:List Tr}
theorem aZ8 {f:Nat→Tr→Option Bool} {p:Tr→Bool} (h:∀ x∈ks,Ev (fun K=>f K x) (p x)) :
  Ev (fun K=>iteS (!decide (((ks.length:Nat):Int)=1)) (some false) ((aZ ks 0).bind fun v6=>((f K v6).bind fun v7=>(iteS (!v7) (some false) (some true))))) (k1S p ks):=by
 match ks,h with
 | [],_=>exact Ev.nT (by simp) Ev.pure
 | [x],h=>exact Ev.nF (by simp) (Ev.opt (a:=x) rfl (Ev.cast (Ev.andN (h x (by simp)) fun _=>Ev.pure) (by simp [k1S])))
 | x :: y :: r,_=>exact Ev.nT (by simp; omega) Ev.pure
theorem aU7 {f g:Nat→Tr→Option Bool} {p q:Tr→Bool} (h:∀ x∈ks,Ev (fun K=>f K x) (p x)) (h':∀ x∈ks,Ev (fun K=>g K x) (q x)) :
  Ev (fun K=>iteS (!decide (((ks.length:Nat):Int)=2)) (some false) ((aZ ks 0).bind fun v6=>((f K v6).bind fun v7=>(iteS (!v7) (some false) ((aZ ks 1).bind fun v8=>((g K v8).bind fun v9=>(iteS (!v9) (some false) (some true)))))))) (k2S p q ks):=by
 match ks,h,h' with
 | [],_,_=>exact Ev.nT (by simp) Ev.pure
 | [x],_,_=>exact Ev.nT (by simp) Ev.pure
 | [x,y],h,h'=>exact Ev.nF (by simp) (Ev.opt (a:=x) rfl (Ev.cast (Ev.andN (h x (by simp)) fun _=>Ev.opt (a:=y) rfl (Ev.andN (h' y (by simp)) fun _=>Ev.pure)) (by simp [k2S])))
 | x :: y :: z :: r,_,_=>exact Ev.nT (by simp; omega) Ev.pure
theorem bDQ {L:Nat→List Tr→Int→Option Bool} {f:Nat→Tr→Option Bool} {p:Tr→Bool}
  (hL:∀ k l i,L (k+1) l i=iteS (decide (i<((l.length:Nat):Int))) ((aZ l i).bind fun v8=>((f k v8).bind fun v9=>(iteS (!v9) (some false) (L k l (IntKind.i64.wrap (i+1)))))) (some true))
  (hl:ks.length≤1099511627776) (h:∀ x∈ks,Ev (fun K=>f K x) (p x)):∀ (m i:Nat),ks.length=i+m→Ev (fun K=>L K ks (i:Int)) ((ks.drop i).all p):=by
 intro m
 induction m with
 | zero =>
  intro i hi
  refine Ev.step (fun k=>by rw [hL]) ?_
  refine Ev.dF (by omega) (Ev.pure' ?_)
  rw [List.drop_of_length_le (by omega)]; rfl
 | succ m ihm =>
  intro i hi
  have hlt:i<ks.length:=by omega
  rw [kM hlt,List.all_cons]
  refine Ev.step (fun k=>by rw [hL]) ?_
  refine Ev.dT (by omega) (Ev.opt (eM hlt) (Ev.andN (h _ (List.getElem_mem hlt)) fun _=>?_))
  rw [dE (by omega)]
  exact ihm (i+1) (by omega)
theorem aNF {L:Nat→List Tr→Int→Option Bool} {f:Nat→Tr→Option Bool} {p:Tr→Bool}
  (hL:∀ k l i,L (k+1) l i=iteS (decide (i<((l.length:Nat):Int))) ((aZ l i).bind fun v8=>((f k v8).bind fun v9=>(iteS (!v9) (some false) (L k l (IntKind.i64.wrap (i+1)))))) (some true))
  (hl:ks.length≤1099511627776) (h:∀ x∈ks,Ev (fun K=>f K x) (p x)) {from':Nat} (hf:from'≤ks.length) :
  Ev (fun K=>(kA ks (from':Int) ((ks.length:Nat):Int)).bind fun v6=>L K v6 0) ((ks.drop from').all p):=by
 refine Ev.opt (vH hf (Nat.le_refl _)) ?_
 rw [List.take_length]
 have:=bDQ (ks:=ks.drop from') hL (by simp; omega) (fun x hx=>h x (List.mem_of_mem_drop hx)) (ks.drop from').length 0 (by omega)
 simpa using this
end
theorem dS {n:Int}:(decide (0≤n) && decide (n≤0))=decide (n=0):=by
 by_cases h:n=0
 ·simp [h]
 ·rw [decide_eq_false h]
  by_cases h':0≤n
  ·rw [decide_eq_false (show ¬ n≤0 by omega),Bool.and_false]
  ·rw [decide_eq_false h',Bool.false_and]
theorem aXe {n:Int}:(decide (0≤n) && decide (n≤1))=(decide (n=0) || decide (n=1)):=by
 by_cases h:n=0
 ·simp [h]
 ·by_cases h1:n=1
  ·simp [h1]
  ·rw [decide_eq_false h,decide_eq_false h1]
   by_cases h':0≤n
   ·rw [decide_eq_false (show ¬ n≤1 by omega),Bool.and_false]; rfl
   ·rw [decide_eq_false h',Bool.false_and]; rfl
theorem bN (s:List UInt8):aMy s []=decide (s=[]):=rfl
theorem oR (s:List UInt8):aMy s [110]=fH s:=rfl
theorem aEq (s:List UInt8):aMy s [108]=lgS s:=rfl

theorem aP {c k n:Int} {nm mk:List UInt8} {ks:List Tr} {r:Row} (h:sel c k=[r]):isT c (.node k n nm mk ks)=dM isT n nm mk ks r:=by
 rw [aVW,h]; simp
theorem aJA {c k n:Int} {nm mk:List UInt8} {ks:List Tr} {r r':Row} (h:sel c k=[r,r']):isT c (.node k n nm mk ks)=(dM isT n nm mk ks r || dM isT n nm mk ks r'):=by
 rw [aVW,h]; simp
theorem aWb {k n:Int} {nm mk:List UInt8} {ks:List Tr}:isT 8 (.node k n nm mk ks)=(decide (k=8) && (fR true false false n nm mk && (fH nm && k1S (isT 1) ks))):=by
 by_cases h:k=8
 ·subst h
  rw [aP (r:=(8,8,[110],[],0,0,[116])) rfl]
  simp only [dM,oR,bN,aBQ (a:=116) (c:=1) (by decide) (by decide) (by decide) rfl,fR,← dS]
  cases fH nm <;> simp [Bool.and_assoc]
 ·rw [lY (by simpa [show eN 8=[8] from rfl] using h),decide_eq_false h]; rfl
theorem bE6 {k n:Int} {nm mk:List UInt8} {ks:List Tr}:isT 9 (.node k n nm mk ks)=(decide (k=34) && (fR true true false n nm mk && (fH nm && (fH mk && k1S (isT 2) ks)))):=by
 by_cases h:k=34
 ·subst h
  rw [aP (r:=(9,34,[110],[110],0,0,[101])) rfl]
  simp only [dM,oR,aBQ (a:=101) (c:=2) (by decide) (by decide) (by decide) rfl,fR,← dS]
  cases fH nm <;> cases fH mk <;> simp [Bool.and_assoc]
 ·rw [lY (by simpa [show eN 9=[34] from rfl] using h),decide_eq_false h]; rfl

theorem aWg {k n:Int} {nm mk:List UInt8} {ks:List Tr} (hl:ks.length≤1099511627776) (hg:∀ x∈ks,Good x)
  (ih:∀ x∈ks,Ev (fun K=>mN K x) (match x with | .nil=>false | .node _ _ _ _ l=>k1S (isT 1) l)) :
  Ev (fun K=>rI K (.node k n nm mk ks)) (jV (isT 8) [] ks && decide (0<ks.length)):=by
 refine Ev.step (fun k=>by rw [rI]) ?_
 have loop:∀ (m i:Nat) (sn:List (List UInt8×Bool)) (seen:List (List UInt8)),ks.length=i+m→(∀ s,(jN sn s).getD false=decide (s∈seen)) →
   Ev (fun K=>pF K (.node k n nm mk ks) ks (i:Int) sn) (jV (isT 8) seen (ks.drop i) && decide (0<ks.length)):=by
  intro m
  induction m with
  | zero =>
   intro i sn seen hi hs
   refine Ev.step (fun k=>by rw [pF]) ?_
   refine Ev.dF (by omega) (Ev.pure' ?_)
   rw [List.drop_of_length_le (by omega)]
   by_cases h:0<ks.length
   ·rw [decide_eq_true h,decide_eq_true (by omega)]; rfl
   ·rw [decide_eq_false h,decide_eq_false (by omega)]; rfl
  | succ m ihm =>
   intro i sn seen hi hs
   have hlt:i<ks.length:=by omega
   rw [kM hlt]
   unfold jV
   have nx:=fun sn seen=>ihm (i+1) sn seen (by omega)
   have e3:=ih _ (List.getElem_mem hlt)
   refine Ev.step (fun k=>by rw [pF]) ?_
   refine Ev.dT (by omega) (Ev.opt (eM hlt) ?_)
   rw [dE (by omega)]
   have gd:=hg _ (List.getElem_mem hlt)
   generalize ks[i]=x at *
   cases gd with
   | @mk k' n' nm' mk' ks' g1 g2 g3 g4 =>
    rw [aWb]
    simp only [nameOf]
    refine Ev.cast (Ev.andDN fun a1=>Ev.andN (dQ ..) fun a2=>Ev.andN (fE nm') fun a3=>Ev.cast (b:=(!decide (nm'∈seen)) && (k1S (isT 1) ks' && (jV (isT 8) (seen++[nm']) (ks.drop (i+1)) && decide (0<ks.length)))) (Ev.is (v:=_) (fun h=>?_) (fun h=>?_)) rfl) ?_
    ·rw [hs] at h
     exact Ev.pure' (by rw [h]; rfl)
    ·rw [hs] at h
     rw [h]
     refine Ev.cast (Ev.andN e3 fun _=>nx _ (seen++[nm']) fun s=>?_) (by simp)
     rw [aRX]
     by_cases e:s=nm'
     ·rw [if_pos e]; simp [e]
     ·rw [if_neg e,hs]; simp [e]
    ·by_cases hm:nm'∈seen <;> cases decide (k'=8) <;> cases fR true false false n' nm' mk' <;> cases fH nm' <;> cases k1S (isT 1) ks' <;> simp [hm]
 have:=loop ks.length 0 [] [] (by omega) (fun s=>by simp [jN])
 simpa using this

theorem aIi:∀ t:Tr,Good t→Ev (fun K=>fB K t) (isT 1 t)∧Ev (fun K=>mN K t) (match t with | .nil=>false | .node _ _ _ _ l=>k1S (isT 1) l):=Tr.ind
 (fun h=>by cases h)
 fun k n nm mk ks ih h=>by
  cases h with
  | mk h1 h2 h3 h4 =>
   have ty:∀ x∈ks,Ev (fun K=>fB K x) (isT 1 x):=fun x hx=>(ih x hx (h4 x hx)).1
   refine ⟨?_,Ev.step (fun k=>by rw [mN]) (aZ8 ty)⟩
   have k2:∀ k,Ev (fun K=>uF K (.node k n nm mk ks)) (k2S (isT 1) (isT 1) ks):=fun k=>Ev.step (fun k=>by rw [uF]) (aU7 ty ty)
   refine Ev.step (fun k=>by rw [fB]) ?_
   refine Ev.d (fun e=>?_) (fun e1=>Ev.d (fun e=>?_) (fun e2=>Ev.d (fun e=>?_) (fun e3=>Ev.d (fun e=>?_) (fun e4=>Ev.d (fun e=>?_) (fun e5=>Ev.d (fun e=>?_) (fun e6=>Ev.d (fun e=>?_) (fun e7=>Ev.pure' ?_)))))))
   ·subst e
    refine Ev.cast (Ev.andB (dQ ..) fun _=>Ev.ret (aGv ..)) ?_
    rw [aP (r:=(1,1,[],[],0,0,[])) rfl]
    simp [dM,bN,cF,fR,← dS,Bool.and_assoc]
   ·subst e
    refine Ev.cast (Ev.andB (dQ ..) fun _=>Ev.ret (aGv ..)) ?_
    rw [aP (r:=(1,2,[],[],0,0,[])) rfl]
    simp [dM,bN,cF,fR,← dS,Bool.and_assoc]
   ·subst e
    refine Ev.cast (Ev.andB (dQ ..) fun _=>Ev.ret (aGv ..)) ?_
    rw [aP (r:=(1,3,[],[],0,0,[])) rfl]
    simp [dM,bN,cF,fR,← dS,Bool.and_assoc]
   ·subst e
    refine Ev.cast (Ev.andB (dQ ..) fun _=>Ev.andB (aBf nm) fun _=>Ev.ret (aGv ..)) ?_
    rw [aP (r:=(1,4,[108],[],0,0,[])) rfl]
    simp only [dM,bN,aEq,cF,fR,← dS]
    cases lgS nm <;> simp [Bool.and_assoc]
   ·subst e
    refine Ev.cast (Ev.andB (dQ ..) fun _=>Ev.ret (k2 _)) ?_
    rw [aP (r:=(1,5,[],[],0,0,[116,116])) rfl]
    simp [dM,bN,rQ (a:=116) (b:=116) (c:=1) (d:=1) (by decide) (by decide) (by decide) (by decide) (by decide) (by decide) rfl rfl,fR,← dS,Bool.and_assoc]
   ·subst e
    refine Ev.cast (Ev.andB (dQ ..) fun _=>Ev.ret (k2 _)) ?_
    rw [aP (r:=(1,6,[],[],0,0,[116,116])) rfl]
    simp [dM,bN,rQ (a:=116) (b:=116) (c:=1) (d:=1) (by decide) (by decide) (by decide) (by decide) (by decide) (by decide) rfl rfl,fR,← dS,Bool.and_assoc]
   ·subst e
    refine Ev.cast (Ev.andB (dQ ..) fun _=>Ev.andB (fE nm) fun _=>Ev.ret (aWg h3 h4 fun x hx=>(ih x hx (h4 x hx)).2)) ?_
    rw [aP (r:=(1,7,[110],[],0,0,[67])) rfl]
    have e67:cF isT [67] ks=(jV (isT 8) [] ks && decide (0<ks.length)):=rfl
    simp only [dM,bN,oR,e67,fR,← dS]
    cases fH nm <;> simp [Bool.and_assoc]
   ·rw [lY (by simp [show eN 1=[1,2,3,4,5,6,7] from rfl,e1,e2,e3,e4,e5,e6,e7])]
end Go.Proofs.YtjhfgiieicloeaaGreatDoor

/- Shapes, part 4: the program's expressions are the table's. -/
namespace Go.Proofs.YtjhfgiieicloeaaGreatDoor
open Go Go.Am Go.Sx

def mE (many:Nat):List UInt8:=List.replicate many 101
theorem aE9:∀ (many:Nat) (l:List Tr),cF isT (mE many) l=(decide (l.length=many) && l.all (isT 2))
 | 0,l=>by
  unfold mE cF
  cases l <;> simp
 | m+1,[]=>by
  rw [mE,List.replicate_succ]
  unfold cF
  simp
 | m+1,k :: ks=>by
  rw [mE,List.replicate_succ]
  unfold cF
  rw [if_neg (by decide),if_neg (by decide),if_neg (by decide)]
  have:=aE9 m ks
  rw [mE] at this
  simp only [this,List.all_cons,List.length_cons,show catS 101=2 from rfl]
  by_cases h:ks.length=m
  ·simp [h]
  ·simp [h]
def hd1:List Tr→Bool
 | []=>false
 | x :: _=>isT 2 x
def hd2:List Tr→Bool
 | x :: y :: _=>isT 2 x && isT 1 y
 | _=>false
theorem bCx (l:List Tr):cF isT [101,65] l=(decide (1<l.length) && ((l.drop 1).all (isT 9) && hd1 l)):=by
 match l with
 | []=>rfl
 | x :: r =>
  unfold cF
  rw [if_neg (by decide),if_neg (by decide),if_neg (by decide)]
  have:cF isT [65] r=(r.all (isT 9) && decide (0<r.length)):=rfl
  simp only [this,show catS 101=2 from rfl,List.drop_succ_cons,List.drop_zero,List.length_cons]
  rw [show decide (1<r.length+1)=decide (0<r.length) by by_cases h:0<r.length <;> simp [h]]
  rw [hd1]
  cases isT 2 x <;> cases r.all (isT 9) <;> simp
theorem bAp (l:List Tr):cF isT [101,116,65] l=(decide (2<l.length) && ((l.drop 2).all (isT 9) && hd2 l)):=by
 match l with
 | []=>rfl
 | [x] =>
  unfold cF
  rw [if_neg (by decide),if_neg (by decide),if_neg (by decide)]
  simp [cF,hd2]
 | x :: y :: r =>
  unfold cF
  rw [if_neg (by decide),if_neg (by decide),if_neg (by decide)]
  simp only []
  unfold cF
  rw [if_neg (by decide),if_neg (by decide),if_neg (by decide)]
  have:cF isT [65] r=(r.all (isT 9) && decide (0<r.length)):=rfl
  simp only [this,show catS 101=2 from rfl,show catS 116=1 from rfl,List.drop_succ_cons,List.drop_zero,List.length_cons]
  rw [show decide (2<r.length+1+1)=decide (0<r.length) by by_cases h:0<r.length <;> simp [h] <;> omega]
  rw [hd2]
  cases isT 2 x <;> cases isT 1 y <;> cases r.all (isT 9) <;> simp

theorem aZc:∀ t:Tr,Good t→Ev (fun K=>fW K t) (isT 2 t)∧Ev (fun K=>tK K t) (isT 9 t)∧(∀ k n nm mk ks,t=.node k n nm mk ks→Ev (fun K=>qS K t) (k1S (isT 2) ks)∧Ev (fun K=>qM K t) (k2S (isT 1) (isT 2) ks)):=Tr.ind
 (fun h=>by cases h)
 fun k n nm mk ks ih h=>by
  cases h with
  | mk h1 h2 h3 h4 =>
   have ty:∀ x∈ks,Ev (fun K=>fB K x) (isT 1 x):=fun x hx=>(aIi x (h4 x hx)).1
   have ex:∀ x∈ks,Ev (fun K=>fW K x) (isT 2 x):=fun x hx=>(ih x hx (h4 x hx)).1
   have ar:∀ x∈ks,Ev (fun K=>tK K x) (isT 9 x):=fun x hx=>(ih x hx (h4 x hx)).2.1
   have k6:Ev (fun K=>qS K (.node k n nm mk ks)) (k1S (isT 2) ks):=Ev.step (fun k=>by rw [qS]) (aZ8 ex)
   have k4:Ev (fun K=>qM K (.node k n nm mk ks)) (k2S (isT 1) (isT 2) ks):=Ev.step (fun k=>by rw [qM]) (aU7 ty ex)
   refine ⟨?_,?_,fun k' n' nm' mk' ks' e=>by cases e; exact ⟨k6,k4⟩⟩
   ·have k5:∀ k,Ev (fun K=>uA K (.node k n nm mk ks)) (k2S (isT 2) (isT 2) ks):=fun k=>Ev.step (fun k=>by rw [uA]) (aU7 ex ex)
    have simple:∀ (k:Int) (many:Nat),Ev (fun K=>kZ K (.node k n nm mk ks) (many:Int)) (fR false false false n nm mk && (decide (ks.length=many) && ks.all (isT 2))):=fun k many=>by
     refine Ev.step (fun k=>by rw [kZ]) ?_
     refine Ev.andB (dQ ..) fun _=>?_
     refine Ev.cast (Ev.andD (p:=((ks.length:Nat):Int)=(many:Int)) (b:=ks.all (isT 2)) fun _=>Ev.ret (Ev.step (fun k=>by rw [aEY]) ?_)) ?_
     ·exact aNF (from':=0) (fun k l i=>by rw [uQ]) h3 ex (by omega)
     ·by_cases h:ks.length=many
      ·rw [decide_eq_true h,decide_eq_true (by omega)]
      ·rw [decide_eq_false h,decide_eq_false (by omega)]
    have arms:∀ (k:Int) (fr:Nat),Ev (fun K=>aAp K (.node k n nm mk ks) (fr:Int)) (decide (fr<ks.length) && (ks.drop fr).all (isT 9)):=fun k fr=>by
     refine Ev.step (fun k=>by rw [aAp]) ?_
     refine Ev.cast (Ev.andD (p:=(fr:Int)<((ks.length:Nat):Int)) (b:=(ks.drop fr).all (isT 9)) fun _=>Ev.ret (Ev.step (fun k=>by rw [aBU]) ?_)) ?_
     ·exact aNF (from':=fr) (fun k l i=>by rw [qI]) h3 ar (by omega)
     ·by_cases h:fr<ks.length
      ·rw [decide_eq_true h,decide_eq_true (by omega)]
      ·rw [decide_eq_false h,decide_eq_false (by omega)]
    refine Ev.step (fun k=>by rw [fW]) ?_
    refine Ev.d (fun e=>?_) (fun e1=>?_)
    ·subst e
     refine Ev.cast (Ev.andB (dQ ..) fun _=>Ev.andD fun _=>Ev.andD fun _=>Ev.ret (aGv ..)) ?_
     rw [aP (r:=(2,20,[],[],IntKind.i64.wrap (0 - 1073741824),1073741824,[])) rfl,show IntKind.i64.wrap (0 - 1073741824)=-1073741824 from rfl]
     simp [dM,bN,cF,fR,Bool.and_assoc]
    refine Ev.d (fun e=>?_) (fun e2=>?_)
    ·subst e
     refine Ev.cast (Ev.andB (b:=(decide (n=0) || decide (n=1)) && decide (ks.length=0)) (dQ ..) fun _=>Ev.d (fun h=>Ev.cast (Ev.ret (aGv ..)) (by simp [h])) (fun h=>Ev.d (fun h'=>Ev.cast (Ev.ret (aGv ..)) (by simp [h'])) (fun h'=>Ev.pure' (by simp [h,h'])))) ?_
     rw [aP (r:=(2,21,[],[],0,1,[])) rfl]
     simp only [dM,bN,cF,fR,← aXe]
     simp [Bool.and_assoc]
    refine Ev.d (fun e=>?_) (fun e3=>?_)
    ·subst e
     refine Ev.cast (Ev.ret (simple 22 0)) ?_
     rw [aP (r:=(2,22,[],[],0,0,mE 0)) rfl]
     simp only [dM,bN,aE9,fR,← dS]
     simp [Bool.and_assoc]
    refine Ev.d (fun e=>?_) (fun e4=>?_)
    ·subst e
     refine Ev.cast (Ev.andB (dQ ..) fun _=>Ev.andB (aBf nm) fun _=>Ev.ret (aGv ..)) ?_
     rw [aP (r:=(2,23,[108],[],0,0,[])) rfl]
     simp only [dM,bN,aEq,cF,fR,← dS]
     cases lgS nm <;> simp [Bool.and_assoc]
    refine Ev.d (fun e=>?_) (fun e5=>?_)
    ·subst e
     refine Ev.cast (Ev.andB (dQ ..) fun _=>Ev.andB (fE nm) fun _=>Ev.ret k4) ?_
     rw [aP (r:=(2,24,[110],[],0,0,[116,101])) rfl]
     simp only [dM,bN,oR,rQ (a:=116) (b:=101) (c:=1) (d:=2) (by decide) (by decide) (by decide) (by decide) (by decide) (by decide) rfl rfl,fR,← dS]
     cases fH nm <;> simp [Bool.and_assoc]
    refine Ev.d (fun e=>?_) (fun e6=>?_)
    ·subst e
     refine Ev.cast (Ev.ret (simple 25 2)) ?_
     rw [aP (r:=(2,25,[],[],0,0,mE 2)) rfl]
     simp only [dM,bN,aE9,fR,← dS]
     simp [Bool.and_assoc]
    refine Ev.d (fun e=>?_) (fun e7=>?_)
    ·subst e
     refine Ev.cast (Ev.ret (simple 26 2)) ?_
     rw [aP (r:=(2,26,[],[],0,0,mE 2)) rfl]
     simp only [dM,bN,aE9,fR,← dS]
     simp [Bool.and_assoc]
    refine Ev.d (fun e=>?_) (fun e8=>?_)
    ·subst e
     refine Ev.cast (Ev.ret (simple 27 1)) ?_
     rw [aP (r:=(2,27,[],[],0,0,mE 1)) rfl]
     simp only [dM,bN,aE9,fR,← dS]
     simp [Bool.and_assoc]
    refine Ev.d (fun e=>?_) (fun e9=>?_)
    ·subst e
     refine Ev.cast (Ev.ret (simple 28 1)) ?_
     rw [aP (r:=(2,28,[],[],0,0,mE 1)) rfl]
     simp only [dM,bN,aE9,fR,← dS]
     simp [Bool.and_assoc]
    refine Ev.d (fun e=>?_) (fun e10=>?_)
    ·subst e
     refine Ev.cast (Ev.andB (dQ ..) fun _=>Ev.andB (fE nm) fun _=>Ev.ret (k5 _)) ?_
     rw [aP (r:=(2,29,[110],[],0,0,[101,101])) rfl]
     simp only [dM,bN,oR,rQ (a:=101) (b:=101) (c:=2) (d:=2) (by decide) (by decide) (by decide) (by decide) (by decide) (by decide) rfl rfl,fR,← dS]
     cases fH nm <;> simp [Bool.and_assoc]
    refine Ev.d (fun e=>?_) (fun e11=>?_)
    ·subst e
     refine Ev.cast (Ev.ret (simple 30 3)) ?_
     rw [aP (r:=(2,30,[],[],0,0,mE 3)) rfl]
     simp only [dM,bN,aE9,fR,← dS]
     simp [Bool.and_assoc]
    refine Ev.d (fun e=>?_) (fun e12=>?_)
    ·subst e
     refine Ev.cast (Ev.andB (dQ ..) fun _=>Ev.andD fun _=>Ev.andD fun _=>Ev.ret (k5 _)) ?_
     rw [aP (r:=(2,31,[],[],1,5,[101,101])) rfl]
     simp only [dM,bN,rQ (a:=101) (b:=101) (c:=2) (d:=2) (by decide) (by decide) (by decide) (by decide) (by decide) (by decide) rfl rfl,fR]
     simp [Bool.and_assoc]
    refine Ev.d (fun e=>?_) (fun e13=>?_)
    ·subst e
     refine Ev.cast (Ev.andB (dQ ..) fun _=>Ev.andB (b:=hd1 ks) (arms 32 1) fun ha=>?_) ?_
     ·match ks,ha,ex with
      | [],ha,_=>simp at ha
      | x :: r,_,ex=>exact Ev.opt (a:=x) rfl (Ev.ret (ex x List.mem_cons_self))
     rw [aP (r:=(2,32,[],[],0,0,[101,65])) rfl]
     simp only [dM,bN,bCx,fR,← dS]
     simp [Bool.and_assoc]
    refine Ev.d (fun e=>?_) (fun e14=>Ev.pure' ?_)
    ·subst e
     refine Ev.cast (Ev.andB (dQ ..) fun _=>Ev.andB (b:=hd2 ks) (arms 33 2) fun ha=>?_) ?_
     ·match ks,ha,ex,ty with
      | [],ha,_,_=>simp at ha
      | [x],ha,_,_=>simp at ha
      | x :: y :: r,_,ex,ty=>exact Ev.opt (a:=x) rfl (Ev.andB (ex x List.mem_cons_self) fun _=>Ev.opt (a:=y) rfl (Ev.ret (ty y (by simp))))
     rw [aP (r:=(2,33,[],[],0,0,[101,116,65])) rfl]
     simp only [dM,bN,bAp,fR,← dS]
     simp [Bool.and_assoc]
    ·rw [lY (by simp [show eN 2=[20,21,22,23,24,25,26,27,28,29,30,31,32,33] from rfl,e1,e2,e3,e4,e5,e6,e7,e8,e9,e10,e11,e12,e13,e14])]
   ·rw [bE6]
    exact Ev.step (fun k=>by rw [tK]) (Ev.andD fun _=>Ev.andB (dQ ..) fun _=>Ev.andB (fE nm) fun _=>Ev.andB (fE mk) fun _=>Ev.ret k6)
end Go.Proofs.YtjhfgiieicloeaaGreatDoor

/- Shapes, part 5: the program's signatures, modules, declarations, programs are the table's. -/
namespace Go.Proofs.YtjhfgiieicloeaaGreatDoor
open Go Go.Am Go.Sx

theorem bIO (l:List Tr):cF isT [115,116] l=k2S (isT 4) (isT 1) l:=rQ (by decide) (by decide) (by decide) (by decide) (by decide) (by decide) rfl rfl l
theorem bHH (l:List Tr):cF isT [116] l=k1S (isT 1) l:=aBQ (by decide) (by decide) (by decide) rfl l
theorem bJn (l:List Tr):cF isT [101] l=k1S (isT 2) l:=aBQ (by decide) (by decide) (by decide) rfl l
theorem bId (l:List Tr):cF isT [109] l=k1S (isT 3) l:=aBQ (by decide) (by decide) (by decide) rfl l
theorem bGe (l:List Tr):cF isT [115] l=k1S (isT 4) l:=aBQ (by decide) (by decide) (by decide) rfl l
theorem bIt (l:List Tr):cF isT [109,115] l=k2S (isT 3) (isT 4) l:=rQ (by decide) (by decide) (by decide) (by decide) (by decide) (by decide) rfl rfl l
theorem bIK (l:List Tr):cF isT [115,109] l=k2S (isT 4) (isT 3) l:=rQ (by decide) (by decide) (by decide) (by decide) (by decide) (by decide) rfl rfl l
theorem bIT (l:List Tr):cF isT [116,101] l=k2S (isT 1) (isT 2) l:=rQ (by decide) (by decide) (by decide) (by decide) (by decide) (by decide) rfl rfl l
theorem k_C (l:List Tr):cF isT [67] l=(jV (isT 8) [] l && decide (0<l.length)):=rfl
theorem k_0 (l:List Tr):cF isT [] l=decide (l.length=0):=rfl
theorem k_p (l:List Tr):cF isT [42,112] l=l.all (isT 5):=aCo l fun x _=>by simp [aGY,show catS 112=5 from rfl]
theorem k_d (l:List Tr):cF isT [42,100] l=l.all (isT 6):=aCo l fun x _=>by simp [aGY,show catS 100=6 from rfl]
def innerS (t:Tr):Bool:=isT 6 t && aGY 105 t
theorem k_i (l:List Tr):cF isT [42,105] l=l.all innerS:=aCo l fun x _=>by simp [innerS,show catS 105=6 from rfl]

theorem aY5:∀ t:Tr,Good t→Ev (fun K=>lN K t) (isT 4 t)∧Ev (fun K=>tV K t) (isT 5 t)∧(∀ k n nm mk ks,t=.node k n nm mk ks→Ev (fun K=>oQ K t) (k1S (isT 4) ks)):=Tr.ind
 (fun h=>by cases h)
 fun k n nm mk ks ih h=>by
  have h:=h
  have kt:=(aIi _ h).2
  cases h with
  | mk h1 h2 h3 h4 =>
   have ty:∀ x∈ks,Ev (fun K=>fB K x) (isT 1 x):=fun x hx=>(aIi x (h4 x hx)).1
   have sg:∀ x∈ks,Ev (fun K=>lN K x) (isT 4 x):=fun x hx=>(ih x hx (h4 x hx)).1
   have sp:∀ x∈ks,Ev (fun K=>tV K x) (isT 5 x):=fun x hx=>(ih x hx (h4 x hx)).2.1
   have co:Ev (fun K=>rI K (.node k n nm mk ks)) (jV (isT 8) [] ks && decide (0<ks.length)):=aWg h3 h4 fun x hx=>(aIi x (h4 x hx)).2
   have k9:Ev (fun K=>oQ K (.node k n nm mk ks)) (k1S (isT 4) ks):=Ev.step (fun k=>by rw [oQ]) (aZ8 sg)
   have k10:Ev (fun K=>uT K (.node k n nm mk ks)) (k2S (isT 4) (isT 1) ks):=Ev.step (fun k=>by rw [uT]) (aU7 sg ty)
   have eaS:Ev (fun K=>yA K (.node k n nm mk ks) 0) (ks.all (isT 5)):=by
    refine Ev.step (fun k=>by rw [yA]) ?_
    exact aNF (from':=0) (fun k l i=>by rw [qG]) h3 sp (by omega)
   refine ⟨?_,?_,fun k' n' nm' mk' ks' e=>by cases e; exact k9⟩
   ·refine Ev.step (fun k=>by rw [lN]) ?_
    refine Ev.d (fun e=>?_) (fun e1=>Ev.d (fun e=>?_) (fun e2=>Ev.d (fun e=>?_) (fun e3=>Ev.pure' ?_)))
    ·subst e
     refine Ev.cast (Ev.andB (dQ ..) fun _=>Ev.ret eaS) ?_
     rw [aP (r:=(4,50,[],[],0,0,[42,112])) rfl]
     simp only [dM,bN,k_p,fR,← dS]
     simp [Bool.and_assoc]
    ·subst e
     refine Ev.cast (Ev.andB (dQ ..) fun _=>Ev.andB (fE nm) fun _=>Ev.ret (aGv ..)) ?_
     rw [aP (r:=(4,51,[110],[],0,0,[])) rfl]
     simp only [dM,bN,oR,k_0,fR,← dS]
     cases fH nm <;> simp [Bool.and_assoc]
    ·subst e
     refine Ev.cast (Ev.andB (dQ ..) fun _=>Ev.andB (aBf nm) fun _=>Ev.ret k10) ?_
     rw [aP (r:=(4,52,[108],[],0,0,[115,116])) rfl]
     simp only [dM,bN,aEq,bIO,fR,← dS]
     cases lgS nm <;> simp [Bool.and_assoc]
    ·rw [lY (by simp [show eN 4=[50,51,52] from rfl,e1,e2,e3])]
   ·refine Ev.step (fun k=>by rw [tV]) ?_
    refine Ev.d (fun e=>?_) (fun e1=>Ev.d (fun e=>?_) (fun e2=>?_))
    ·subst e
     refine Ev.cast (Ev.andB (dQ ..) fun _=>Ev.ret k9) ?_
     rw [aP (r:=(5,64,[],[],0,0,[115])) rfl]
     simp only [dM,bN,bGe,fR,← dS]
     simp [Bool.and_assoc]
    ·subst e
     refine Ev.cast (Ev.andB (dQ ..) fun _=>Ev.andB (aBf nm) fun _=>Ev.andB (aBf mk) fun _=>Ev.ret (aGv ..)) ?_
     rw [aP (r:=(5,65,[108],[108],0,0,[])) rfl]
     simp only [dM,aEq,k_0,fR,← dS]
     cases lgS nm <;> cases lgS mk <;> simp [Bool.and_assoc]
    by_cases e3:k=60
    ·subst e3
     refine Ev.cast (Ev.andN (dQ ..) fun _=>Ev.andN (fE nm) fun _=>Ev.dT rfl (Ev.ret kt)) ?_
     rw [aP (r:=(5,60,[110],[],0,0,[116])) rfl]
     simp only [dM,bN,oR,bHH,fR,← dS]
     cases fH nm <;> simp [Bool.and_assoc]
    by_cases e4:k=61
    ·subst e4
     refine Ev.cast (Ev.andN (dQ ..) fun _=>Ev.andN (fE nm) fun _=>Ev.dF (by decide) (Ev.dT rfl (Ev.orB (aGv ..) (Ev.ret kt)))) ?_
     rw [aJA (r:=(5,61,[110],[],0,0,[116])) (r':=(5,61,[110],[],0,0,[])) rfl]
     simp only [dM,bN,oR,bHH,k_0,fR,← dS]
     cases fH nm <;> cases decide (mk=[]) <;> cases decide (0≤n) <;> cases decide (n≤0) <;> cases k1S (isT 1) ks <;> simp
    by_cases e5:k=62
    ·subst e5
     refine Ev.cast (Ev.andN (dQ ..) fun _=>Ev.andN (fE nm) fun _=>Ev.dF (by decide) (Ev.dF (by decide) (Ev.dT rfl (Ev.ret co)))) ?_
     rw [aP (r:=(5,62,[110],[],0,0,[67])) rfl]
     simp only [dM,bN,oR,k_C,fR,← dS]
     cases fH nm <;> simp [Bool.and_assoc]
    by_cases e6:k=63
    ·subst e6
     refine Ev.cast (Ev.andN (dQ ..) fun _=>Ev.andN (fE nm) fun _=>Ev.dF (by decide) (Ev.dF (by decide) (Ev.dF (by decide) (Ev.dT rfl (Ev.ret k9))))) ?_
     rw [aP (r:=(5,63,[110],[],0,0,[115])) rfl]
     simp only [dM,bN,oR,bGe,fR,← dS]
     cases fH nm <;> simp [Bool.and_assoc]
    refine Ev.cast (Ev.andN (dQ ..) fun _=>Ev.andN (fE nm) fun _=>Ev.dF e3 (Ev.dF e4 (Ev.dF e5 (Ev.dF e6 Ev.pure)))) ?_
    rw [lY (by simp [show eN 5=[60,61,61,62,63,64,65] from rfl,e1,e2,e3,e4,e5,e6])]
    simp

theorem bC8:∀ t:Tr,Good t→Ev (fun K=>pG K t) (isT 3 t)∧Ev (fun K=>pC K t) (innerS t):=Tr.ind
 (fun h=>by cases h)
 fun k n nm mk ks ih h=>by
  have h:=h
  have kt:=(aIi _ h).2
  have ke:=(aZc _ h).2.2 _ _ _ _ _ rfl
  cases h with
  | mk h1 h2 h3 h4 =>
   have md:∀ x∈ks,Ev (fun K=>pG K x) (isT 3 x):=fun x hx=>(ih x hx (h4 x hx)).1
   have rS:∀ x∈ks,Ev (fun K=>pC K x) (innerS x):=fun x hx=>(ih x hx (h4 x hx)).2
   have sg:∀ x∈ks,Ev (fun K=>lN K x) (isT 4 x):=fun x hx=>(aY5 x (h4 x hx)).1
   have co:Ev (fun K=>rI K (.node k n nm mk ks)) (jV (isT 8) [] ks && decide (0<ks.length)):=aWg h3 h4 fun x hx=>(aIi x (h4 x hx)).2
   have k7:Ev (fun K=>tG K (.node k n nm mk ks)) (k1S (isT 3) ks):=Ev.step (fun k=>by rw [tG]) (aZ8 md)
   have k8:Ev (fun K=>tP K (.node k n nm mk ks)) (k2S (isT 3) (isT 4) ks):=Ev.step (fun k=>by rw [tP]) (aU7 md sg)
   have eaS:Ev (fun K=>xQ K (.node k n nm mk ks) 0) (ks.all innerS):=by
    refine Ev.step (fun k=>by rw [xQ]) ?_
    exact aNF (from':=0) (fun k l i=>by rw [qL]) h3 rS (by omega)
   refine ⟨?_,?_⟩
   ·refine Ev.step (fun k=>by rw [pG]) ?_
    refine Ev.d (fun e=>?_) (fun e1=>Ev.d (fun e=>?_) (fun e2=>Ev.d (fun e=>?_) (fun e3=>Ev.d (fun e=>?_) (fun e4=>Ev.pure' ?_))))
    ·subst e
     refine Ev.cast (Ev.andB (dQ ..) fun _=>Ev.ret eaS) ?_
     rw [aP (r:=(3,40,[],[],0,0,[42,105])) rfl]
     simp only [dM,bN,k_i,fR,← dS]
     simp [Bool.and_assoc]
    ·subst e
     refine Ev.cast (Ev.andB (dQ ..) fun _=>Ev.andB (aBf nm) fun _=>Ev.ret (aGv ..)) ?_
     rw [aP (r:=(3,41,[108],[],0,0,[])) rfl]
     simp only [dM,bN,aEq,k_0,fR,← dS]
     cases lgS nm <;> simp [Bool.and_assoc]
    ·subst e
     refine Ev.cast (Ev.andB (dQ ..) fun _=>Ev.andB (fE nm) fun _=>Ev.ret k7) ?_
     rw [aP (r:=(3,42,[110],[],0,0,[109])) rfl]
     simp only [dM,bN,oR,bId,fR,← dS]
     cases fH nm <;> simp [Bool.and_assoc]
    ·subst e
     refine Ev.cast (Ev.andB (b:=(decide (n=0) || decide (n=1)) && k2S (isT 3) (isT 4) ks) (dQ ..) fun _=>Ev.d (fun h=>Ev.cast (Ev.ret k8) (by simp [h])) (fun h=>Ev.d (fun h'=>Ev.cast (Ev.ret k8) (by simp [h'])) (fun h'=>Ev.pure' (by simp [h,h'])))) ?_
     rw [aP (r:=(3,43,[],[],0,1,[109,115])) rfl]
     simp only [dM,bN,bIt,fR,← aXe]
     simp [Bool.and_assoc]
    ·rw [lY (by simp [show eN 3=[40,41,42,43] from rfl,e1,e2,e3,e4])]
   ·refine Ev.step (fun k=>by rw [pC]) ?_
    unfold innerS
    by_cases e1:k=76
    ·subst e1
     refine Ev.cast (Ev.andN (dQ ..) fun _=>Ev.dT rfl (Ev.andB (aBf nm) fun _=>Ev.ret (aGv ..))) ?_
     rw [aP (r:=(6,76,[108],[],0,0,[])) rfl,show aGY 105 (.node 76 n nm mk ks)=true from rfl]
     simp only [dM,bN,aEq,k_0,fR,← dS]
     cases lgS nm <;> simp [Bool.and_assoc]
    by_cases e2:k=77
    ·subst e2
     refine Ev.cast (Ev.andN (dQ ..) fun _=>Ev.dF (by decide) (Ev.dT rfl (Ev.andB (aBf nm) fun _=>Ev.ret (aGv ..)))) ?_
     rw [aP (r:=(6,77,[108],[],0,0,[])) rfl,show aGY 105 (.node 77 n nm mk ks)=true from rfl]
     simp only [dM,bN,aEq,k_0,fR,← dS]
     cases lgS nm <;> simp [Bool.and_assoc]
    by_cases e3:k=70
    ·subst e3
     have c0:Ev (fun K=>dX K (.node 70 n nm mk ks)) (fH nm && (k1S (isT 2) ks || k2S (isT 1) (isT 2) ks)):=by
      refine Ev.step (fun k=>by rw [dX]) ?_
      exact Ev.andN (fE nm) fun _=>Ev.dT rfl (Ev.orB ke.1 (Ev.ret ke.2))
     refine Ev.cast (Ev.andN (dQ ..) fun _=>Ev.dF (by decide) (Ev.dF (by decide) c0)) ?_
     rw [aJA (r:=(6,70,[110],[],0,0,[101])) (r':=(6,70,[110],[],0,0,[116,101])) rfl,show aGY 105 (.node 70 n nm mk ks)=true from rfl]
     simp only [dM,bN,oR,bJn,bIT,fR,← dS]
     cases fH nm <;> cases decide (mk=[]) <;> cases decide (0≤n) <;> cases decide (n≤0) <;> cases k1S (isT 2) ks <;> simp
    by_cases e4:k=71
    ·subst e4
     have c0:Ev (fun K=>dX K (.node 71 n nm mk ks)) (fH nm && (k1S (isT 1) ks)):=by
      refine Ev.step (fun k=>by rw [dX]) ?_
      exact Ev.andN (fE nm) fun _=>Ev.dF (by decide) (Ev.dT rfl (Ev.ret kt))
     refine Ev.cast (Ev.andN (dQ ..) fun _=>Ev.dF (by decide) (Ev.dF (by decide) c0)) ?_
     rw [aP (r:=(6,71,[110],[],0,0,[116])) rfl,show aGY 105 (.node 71 n nm mk ks)=true from rfl]
     simp only [dM,bN,oR,bHH,fR,← dS]
     cases fH nm <;> simp [Bool.and_assoc]
    by_cases e5:k=72
    ·subst e5
     have c0:Ev (fun K=>dX K (.node 72 n nm mk ks)) (fH nm && (jV (isT 8) [] ks && decide (0<ks.length))):=by
      refine Ev.step (fun k=>by rw [dX]) ?_
      exact Ev.andN (fE nm) fun _=>Ev.dF (by decide) (Ev.dF (by decide) (Ev.dT rfl (Ev.ret co)))
     refine Ev.cast (Ev.andN (dQ ..) fun _=>Ev.dF (by decide) (Ev.dF (by decide) c0)) ?_
     rw [aP (r:=(6,72,[110],[],0,0,[67])) rfl,show aGY 105 (.node 72 n nm mk ks)=true from rfl]
     simp only [dM,bN,oR,k_C,fR,← dS]
     cases fH nm <;> simp [Bool.and_assoc]
    by_cases e6:k=73
    ·subst e6
     have c0:Ev (fun K=>dX K (.node 73 n nm mk ks)) (fH nm && (k1S (isT 3) ks)):=by
      refine Ev.step (fun k=>by rw [dX]) ?_
      exact Ev.andN (fE nm) fun _=>Ev.dF (by decide) (Ev.dF (by decide) (Ev.dF (by decide) (Ev.dT rfl (Ev.ret k7))))
     refine Ev.cast (Ev.andN (dQ ..) fun _=>Ev.dF (by decide) (Ev.dF (by decide) c0)) ?_
     rw [aP (r:=(6,73,[110],[],0,0,[109])) rfl,show aGY 105 (.node 73 n nm mk ks)=true from rfl]
     simp only [dM,bN,oR,bId,fR,← dS]
     cases fH nm <;> simp [Bool.and_assoc]
    have c0:Ev (fun K=>dX K (.node k n nm mk ks)) (fH nm && (false)):=by
     refine Ev.step (fun k=>by rw [dX]) ?_
     exact Ev.andN (fE nm) fun _=>Ev.dF e3 (Ev.dF e4 (Ev.dF e5 (Ev.dF e6 Ev.pure)))
    refine Ev.cast (Ev.andN (dQ ..) fun _=>Ev.dF e1 (Ev.dF e2 c0)) ?_
    by_cases e7:k=74
    ·subst e7; simp [aGY,kindOf]
    by_cases e8:k=75
    ·subst e8; simp [aGY,kindOf]
    rw [lY (by simp [show eN 6=[70,70,71,72,73,74,75,76,77] from rfl,e1,e2,e3,e4,e5,e6,e7,e8])]
    simp

theorem bEP (t:Tr) (h:Good t):Ev (fun K=>aBy K t) (isT 6 t):=by
 have rS:=(bC8 _ h).2
 cases h with
 | @mk k n nm mk ks h1 h2 h3 h4 =>
  have k9:=(aY5 _ (Good.mk h1 h2 h3 h4 (k:=k) (n:=n))).2.2 _ _ _ _ _ rfl
  have md:∀ x∈ks,Ev (fun K=>pG K x) (isT 3 x):=fun x hx=>(bC8 x (h4 x hx)).1
  have sg:∀ x∈ks,Ev (fun K=>lN K x) (isT 4 x):=fun x hx=>(aY5 x (h4 x hx)).1
  have k11:Ev (fun K=>zL K (.node k n nm mk ks)) (k2S (isT 4) (isT 3) ks):=Ev.congr (f:=fun K=>_) (aU7 sg md) (fun k=>by rw [zL])
  refine Ev.congr (f:=fun K=>_) ?_ (fun k=>by rw [aBy])
  refine Ev.d (fun e=>?_) (fun e1=>Ev.d (fun e=>?_) (fun e2=>?_))
  ·subst e
   refine Ev.cast (Ev.andB (dQ ..) fun _=>Ev.andB (fE nm) fun _=>Ev.ret k9) ?_
   rw [aP (r:=(6,74,[110],[],0,0,[115])) rfl]
   simp only [dM,bN,oR,bGe,fR,← dS]
   cases fH nm <;> simp [Bool.and_assoc]
  ·subst e
   refine Ev.cast (Ev.andB (dQ ..) fun _=>Ev.andB (fE nm) fun _=>Ev.andB (fE mk) fun _=>Ev.ret k11) ?_
   rw [aP (r:=(6,75,[110],[110],0,0,[115,109])) rfl]
   simp only [dM,oR,bIK,fR,← dS]
   cases fH nm <;> cases fH mk <;> simp [Bool.and_assoc]
  ·refine Ev.cast (Ev.ret rS) ?_
   simp [innerS,aGY,kindOf,e1,e2]
theorem bEJ (t:Tr) (h:Good t):Ev (fun K=>xN K t) (isT 7 t):=by
 cases h with
 | @mk k n nm mk ks h1 h2 h3 h4 =>
  refine Ev.congr (f:=fun K=>_) ?_ (fun k=>by rw [xN])
  refine Ev.d (fun e=>?_) (fun e1=>Ev.pure' ?_)
  ·subst e
   have ea:Ev (fun K=>aB2 K (.node 80 n nm mk ks) 0) (ks.all (isT 6)):=by
    refine Ev.congr (f:=fun K=>_) ?_ (fun k=>by rw [aB2])
    exact aNF (from':=0) (fun k l i=>by rw [qF]) h3 (fun x hx=>bEP x (h4 x hx)) (by omega)
   refine Ev.cast (Ev.andB (dQ ..) fun _=>Ev.ret ea) ?_
   rw [aP (r:=(7,80,[],[],0,0,[42,100])) rfl]
   simp only [dM,bN,k_d,fR,← dS]
   simp [Bool.and_assoc]
  ·rw [lY (by simp [show eN 7=[80] from rfl,e1])]
end Go.Proofs.YtjhfgiieicloeaaGreatDoor

/- Shapes, part 5b: a look at a tree as a type, by both; opened trees. -/
namespace Go.Proofs.YtjhfgiieicloeaaGreatDoor
open Go Go.Am Go.Sx

theorem aKZ:∀ t:Tr,Good t→vI t=true:=Tr.ind (fun h=>by cases h) fun k n nm mk ks ih h=>by
 cases h with
 | mk h1 h2 h3 h4=>rw [aM9,aPm]; exact fun x hx=>ih x hx (h4 x hx)
def aVz (t:Tr):Prop:=t.w≤1099511627776∧(vI t=true→Good t)
def chk (c:Int) (t:Tr):Int:=if (aIP t).2=0 then (if 60<pR t then 7 else if isT c t=true then 0 else 16) else (aIP t).2
theorem aO7 {t:Tr} (h:(aIP t).2=0):vI t=true:=by
 unfold aIP at h
 by_cases hf:vI t=true
 ·exact hf
 ·rw [if_neg hf] at h; cases h
theorem aYV {f:Nat→Tr→Option Bool} {c:Int} {t:Tr} (h:aVz t) (hf:Good t→Ev (fun K=>f K t) (isT c t)) :
  Ev (fun K=>(wO K t).bind fun (_,v2)=>iteS (!decide (v2=0)) (some v2) ((mD K t).bind fun v3=>iteS (decide (60<v3)) (some (7:Int)) ((f K t).bind fun v4=>iteS (!v4) (some 16) (some 0)))) (chk c t):=by
 unfold chk
 have hp:=bE9 t h.1
 have key:(aIP t).2=0→vI t=true:=aO7
 generalize aIP t=q at *
 obtain ⟨a,e⟩:=q
 refine Ev.bind hp ?_
 refine Ev.n (fun h0=>Ev.pure' ?_) (fun h0=>?_)
 ·rw [if_neg h0]
 ·rw [if_pos h0]
  refine Ev.bind (aZw t h.1) (Ev.d (fun h1=>Ev.pure' ?_) (fun h1=>?_))
  ·rw [if_pos (by omega)]
  ·rw [if_neg (by omega)]
   refine Ev.bind (hf (h.2 (key h0))) ?_
   cases isT c t
   ·exact Ev.isT rfl Ev.pure
   ·exact Ev.isF rfl Ev.pure
section
variable {t:Tr} (h:aVz t)
include h
theorem aZu:Ev (fun K=>aIo K t) (chk 1 t):=Ev.congr (f:=fun _K=>_) (Ev.ret (Ev.congr (f:=fun _K=>_) (aYV (f:=fB) h fun g=>(aIi t g).1) (fun _=>rfl))) (fun _=>rfl)
end

theorem aKV {c:Int} {t:Tr} (h1:vI t=true) (h2:oK t≤8192) (h3:pR t≤60):chk c t=if isT c t=true then 0 else 16:=by
 have e:aIP t=(qD t 0,0):=by unfold aIP; rw [if_pos h1,if_neg (by omega)]
 unfold chk
 rw [e,if_pos rfl,if_neg (by omega)]
end Go.Proofs.YtjhfgiieicloeaaGreatDoor

/- Texts in signs; lists of one or two kids. -/
namespace Go.Proofs.YtjhfgiieicloeaaGreatDoor
open Go Go.Am Go.Sx
def par (b:Bool) (s:List UInt8):List UInt8:=if b=true then [40,32]++s++[32,41] else s
theorem sS (b:Bool) (s:List UInt8):(par b s).length≤s.length+4:=by
 unfold par; split <;> simp
theorem eJ {s:List UInt8} (h:fH s=true):s.length≤32:=by
 unfold fH nmS at h
 simp only [Bool.and_eq_true,decide_eq_true_eq] at h
 exact h.1.2.1
theorem yU {s:List UInt8} (h:lgS s=true):s.length≤128:=by
 unfold lgS at h
 simp only [Bool.and_eq_true,decide_eq_true_eq] at h
 exact h.1
theorem aJ2 {p q:Tr→Bool} {l:List Tr} (h:k2S p q l=true):∃ x y,l=[x,y]∧p x=true∧q y=true:=by
 match l,h with
 | [x,y],h=>exact ⟨x,y,rfl,by simpa [k2S] using h⟩
theorem aSG {p:Tr→Bool} {l:List Tr} (h:k1S p l=true):∃ x,l=[x]∧p x=true:=by
 match l,h with
 | [x],h=>exact ⟨x,rfl,by simpa [k1S] using h⟩
theorem aC1 {c:Int} {t:Tr} (h:isT c t=true):∃ k n nm mk ks,t=.node k n nm mk ks:=by
 cases t with
 | nil=>rw [aV4] at h; cases h
 | node k n nm mk ks=>exact ⟨k,n,nm,mk,ks,rfl⟩
theorem bFF {k n:Int} {nm mk:List UInt8} {ks:List Tr} (h:isT 1 (.node k n nm mk ks)=true):k=1∨k=2∨k=3∨k=4∨k=5∨k=6∨k=7:=by
 by_cases e:k∈eN 1
 ·simpa [show eN 1=[1,2,3,4,5,6,7] from rfl] using e
 ·rw [lY e] at h; cases h
end Go.Proofs.YtjhfgiieicloeaaGreatDoor

/- A tree is the same as itself, the program says. -/
namespace Go.Proofs.YtjhfgiieicloeaaGreatDoor
open Go Go.Am Go.Sx
theorem aY2 {p:List Tr} (hl:p.length≤1099511627776) (ih:∀ x∈p,Ev (fun K=>tX K x x) true):∀ (m i:Nat),p.length=i+m→Ev (fun K=>hG K p p (i:Int)) true:=by
 intro m
 induction m with
 | zero =>
  intro i hi
  exact Ev.step (fun k=>by rw [hG]) (Ev.dF (by omega) Ev.pure)
 | succ m ihm =>
  intro i hi
  have hlt:i<p.length:=by omega
  refine Ev.step (fun k=>by rw [hG]) ?_
  refine Ev.dT (by omega) ?_
  refine Ev.opt (eM hlt) ?_
  refine Ev.opt (eM hlt) ?_
  refine Ev.bind (ih _ (List.getElem_mem hlt)) ?_
  refine Ev.isF rfl ?_
  rw [dE (by omega)]
  exact ihm (i+1) (by omega)
theorem bDu:∀ t:Tr,t.w≤1048576→Ev (fun K=>tX K t t) true:=Tr.ind
 (fun _=>Ev.step (fun k=>by rw [tX]) Ev.pure)
 fun k n nm mk ks ih h=>by
  rw [aH] at h
  have hl:=aCR ks
  refine Ev.step (fun k=>by rw [tX]) ?_
  refine Ev.dT rfl ?_
  refine Ev.dT rfl ?_
  refine Ev.dT rfl ?_
  refine Ev.dT rfl ?_
  refine Ev.bind (a:=true) ?_ Ev.pure
  refine Ev.step (fun k=>by rw [sL]) ?_
  refine Ev.nF rfl ?_
  exact aY2 (by omega) (fun x hx=>ih x hx (by have:=aB1 hx; omega)) ks.length 0 (by omega)
end Go.Proofs.YtjhfgiieicloeaaGreatDoor

