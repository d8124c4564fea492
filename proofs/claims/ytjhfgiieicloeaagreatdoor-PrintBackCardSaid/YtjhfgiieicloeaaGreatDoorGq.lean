/- Joined texts: A1, A2, A3, A4, A9, S1, S2, S3, S4, S5, S5b, Pr0, E0. -/
import Derived.Test.YtjhfgiieicloeaaGreatDoorGp
import Derived.Test.YtjhfgiieicloeaaGreatDoorGf
/- Plain facts of trees, part 1: size, depth. -/
namespace Go.Proofs.YtjhfgiieicloeaaGreatDoor
open Go Go.Am Go.Sx
def kindOf:Tr→Int
 | .nil=>0
 | .node k _ _ _ _=>k
def mV:Tr→Nat
 | .nil=>0
 | .node _ _ _ _ ks=>1+go ks
where go:List Tr→Nat
 | []=>0
 | k :: ks=>mV k+go ks
abbrev aJp (l:List Tr):Nat:=mV.go l
theorem aLy:aJp []=0:=by simp [mV.go]
theorem aFx (k:Tr) (ks:List Tr):aJp (k :: ks)=mV k+aJp ks:=by simp [mV.go]
theorem aPD:mV .nil=0:=by simp [mV]
theorem aCk {k n nm mk ks}:mV (Tr.node k n nm mk ks)=1+aJp ks:=by simp [mV]
theorem aTd:∀ {l:List Tr},(∀ x∈l,mV x≤x.w)→aJp l≤wL l
 | [],_=>by simp [aLy,aK]
 | k :: l,h=>by
  rw [aFx,aC]
  have:=h k List.mem_cons_self
  have:=aTd (l:=l) fun x hx=>h x (List.mem_cons_of_mem _ hx)
  omega
theorem aPS:∀ {l:List Tr} {x:Tr},x∈l→mV x≤aJp l
 | k :: l,x,hx=>by
  rw [aFx]
  rcases List.mem_cons.1 hx with rfl | hx
  ·omega
  ·have:=aPS hx; omega
theorem aXs:∀ t:Tr,mV t≤t.w:=Tr.ind (by simp [aPD]) fun k n nm mk ks ih=>by
 rw [aCk,aH]; have:=aTd ih; omega
def qC:Tr→Nat
 | .nil=>0
 | .node _ _ _ _ ks=>go ks 0+1
where go:List Tr→Nat→Nat
 | [],d=>d
 | k :: ks,d=>go ks (max d (qC k))
abbrev aQP (l:List Tr) (d:Nat):Nat:=qC.go l d
theorem aQl (d:Nat):aQP [] d=d:=by simp [qC.go]
theorem aIM (k:Tr) (ks:List Tr) (d:Nat):aQP (k :: ks) d=aQP ks (max d (qC k)):=by simp [qC.go]
theorem aVV:qC .nil=0:=by simp [qC]
theorem aIo {k n nm mk ks}:qC (Tr.node k n nm mk ks)=aQP ks 0+1:=by simp [qC]
theorem aYM:∀ {l:List Tr} (d:Nat),(∀ x∈l,qC x≤x.w)→aQP l d≤d+wL l
 | [],d,_=>by simp [aQl,aK]
 | k :: l,d,h=>by
  rw [aIM,aC]
  have:=h k List.mem_cons_self
  have:=aYM (l:=l) (max d (qC k)) fun x hx=>h x (List.mem_cons_of_mem _ hx)
  omega
theorem aX6:∀ {l:List Tr} {d:Nat},d≤aQP l d
 | [],d=>by rw [aQl]; omega
 | y :: l,d=>by rw [aIM]; have:=aX6 (l:=l) (d:=max d (qC y)); omega
theorem aQf:∀ {l:List Tr} {x:Tr} {d:Nat},x∈l→qC x≤aQP l d
 | y :: l,x,d,h=>by
  rw [aIM]
  rcases List.mem_cons.1 h with rfl | hx
  ·have:=aX6 (l:=l) (d:=max d (qC x)); omega
  ·exact aQf hx
theorem bDb:∀ t:Tr,qC t≤t.w:=Tr.ind (by simp [aVV]) fun k n nm mk ks ih=>by
 rw [aIo,aH]; have:=aYM 0 ih; omega
theorem aUj {k n nm mk ks} (h:(Tr.node k n nm mk ks).w≤1099511627776):wL ks≤1099511627776∧ks.length≤1099511627776:=by
 rw [aH] at h
 have:=aGJ ks
 omega
theorem aWR {ks:List Tr} (hl:ks.length≤1099511627776) (ih:∀ x∈ks,Ev (fun K=>rB K x) (mV x:Int)):∀ (m i s:Nat),ks.length=i+m→s+aJp (ks.drop i)≤2 * 1099511627776 →
  Ev (fun K=>oM K (s:Int) ks (i:Int)) ((s+aJp (ks.drop i):Nat):Int):=by
 intro m
 induction m with
 | zero =>
  intro i s hi hs
  refine Ev.step (fun k=>by rw [oM]) ?_
  refine Ev.dF (by omega) (Ev.pure' ?_)
  rw [List.drop_of_length_le (by omega),aLy]; rfl
 | succ m ihm =>
  intro i s hi hs
  have hlt:i<ks.length:=by omega
  rw [iL hlt,aFx] at hs ⊢
  refine Ev.step (fun k=>by rw [oM]) ?_
  refine Ev.dT (by omega) (Ev.opt (dL hlt) (Ev.bind (ih _ (List.getElem_mem hlt)) ?_))
  rw [bZ (by omega),eU (by omega) (by omega)]
  have:=ihm (i+1) (s+mV ks[i]) (by omega) (by omega)
  rw [Int.natCast_add] at this
  rw [show s+(mV ks[i]+aJp (ks.drop (i+1)))=s+mV ks[i]+aJp (ks.drop (i+1)) by omega]
  exact this
theorem bAS:∀ t:Tr,t.w≤1099511627776→Ev (fun K=>rB K t) (mV t:Int):=Tr.ind
 (fun _=>Ev.step (fun k=>by rw [rB]) (Ev.pure' (by simp [aPD])))
 fun k n nm mk ks ih h=>by
  obtain ⟨h1,h2⟩:=aUj h
  refine Ev.step (fun k=>by rw [rB]) ?_
  have:=aWR h2 (fun x hx=>ih x hx (by have:=aB1 hx; omega)) ks.length 0 1 (by omega) (by
   have:=aTd (l:=ks) fun x _=>aXs x
   simp only [List.drop_zero]; omega)
  rw [aCk]
  simpa using this
theorem aWU {ks:List Tr} (hl:ks.length≤1099511627776) (ih:∀ x∈ks,Ev (fun K=>lS K x) (qC x:Int)):∀ (m i d:Nat),ks.length=i+m→d+wL (ks.drop i)≤2 * 1099511627776 →
  Ev (fun K=>oY K (d:Int) ks (i:Int)) ((aQP (ks.drop i) d+1:Nat):Int):=by
 intro m
 induction m with
 | zero =>
  intro i d hi hs
  refine Ev.step (fun k=>by rw [oY]) ?_
  refine Ev.dF (by omega) (Ev.pure' ?_)
  rw [List.drop_of_length_le (by omega),aQl,bZ (by omega)]
 | succ m ihm =>
  intro i d hi hs
  have hlt:i<ks.length:=by omega
  rw [iL hlt,aC] at hs
  rw [iL hlt,aIM]
  refine Ev.step (fun k=>by rw [oY]) ?_
  refine Ev.dT (by omega) (Ev.opt (dL hlt) (Ev.bind (ih _ (List.getElem_mem hlt)) ?_))
  have hd:=bDb ks[i]
  rw [bZ (by omega),show (if (d:Int)<(qC ks[i]:Int) then (qC ks[i]:Int) else (d:Int))=((max d (qC ks[i]):Nat):Int) by split <;> omega]
  exact ihm (i+1) _ (by omega) (by omega)
theorem bAH:∀ t:Tr,t.w≤1099511627776→Ev (fun K=>lS K t) (qC t:Int):=Tr.ind
 (fun _=>Ev.step (fun k=>by rw [lS]) (Ev.pure' (by simp [aVV])))
 fun k n nm mk ks ih h=>by
  obtain ⟨h1,h2⟩:=aUj h
  refine Ev.step (fun k=>by rw [lS]) ?_
  have:=aWU h2 (fun x hx=>ih x hx (by have:=aB1 hx; omega)) ks.length 0 0 (by omega) (by simp only [List.drop_zero]; omega)
  rw [aIo]
  simpa using this
open Classical in
noncomputable def eqB {α:Type} (a b:α):Bool:=decide (a=b)
theorem bGA {α:Type} {a b:α} (h:a=b):eqB a b=true:=by simp [eqB,h]
theorem bGh {α:Type} {a b:α} (h:a≠b):eqB a b=false:=by simp [eqB,h]
end Go.Proofs.YtjhfgiieicloeaaGreatDoor

/- Plain facts of trees, part 2: few cells, no nil, packing. -/
namespace Go.Proofs.YtjhfgiieicloeaaGreatDoor
open Go Go.Am Go.Sx
def bCe (c:Cell):Cell:=⟨c.1,c.2.1,c.2.2.1.take 130,c.2.2.2.1.take 130,c.2.2.2.2.take 12⟩
def sH:Tr→Bool
 | .nil=>false
 | .node _ _ _ _ ks=>go ks
where go:List Tr→Bool
 | []=>true
 | k :: ks=>sH k && go ks
abbrev aSJ (l:List Tr):Bool:=sH.go l
theorem aVH:aSJ []=true:=by simp [sH.go]
theorem aSs (k:Tr) (ks:List Tr):aSJ (k :: ks)=(sH k && aSJ ks):=by simp [sH.go]
theorem aLE:sH .nil=false:=by simp [sH]
theorem aFU {k n nm mk ks}:sH (Tr.node k n nm mk ks)=aSJ ks:=by simp [sH]
theorem aHU:∀ {l:List Tr},aSJ l=true↔∀ x∈l,sH x=true
 | []=>by simp [aVH]
 | k :: l=>by rw [aSs,Bool.and_eq_true,aHU]; simp
theorem aTM {p:List Tr} (hl:p.length≤1099511627776) (ih:∀ x∈p,Ev (fun K=>qM K x) (sH x)):∀ (m i:Nat),p.length=i+m →
  ∃ r:Int,Ev (fun K=>eV K p (i:Int)) r∧decide (0≤r)=!aSJ (p.drop i):=by
 intro m
 induction m with
 | zero =>
  intro i hi
  refine ⟨-1,?_,?_⟩
  ·refine Ev.step (fun k=>by rw [eV]) ?_
   exact Ev.dF (by omega) Ev.pure
  ·rw [List.drop_of_length_le (by omega),aVH]; rfl
 | succ m ihm =>
  intro i hi
  have hlt:i<p.length:=by omega
  have hw:Ev (fun K=>uR K p[i]) (!sH p[i]):=Ev.step (fun k=>by rw [uR]) (Ev.bind (ih _ (List.getElem_mem hlt)) Ev.pure)
  rw [iL hlt,aSs]
  cases hf:sH p[i] with
  | false =>
   refine ⟨i,?_,by simp⟩
   refine Ev.step (fun k=>by rw [eV]) ?_
   refine Ev.dT (by omega) (Ev.opt (dL hlt) (Ev.bind hw ?_))
   rw [hf]
   exact Ev.isT rfl Ev.pure
  | true =>
   obtain ⟨r,h1,h2⟩:=ihm (i+1) (by omega)
   refine ⟨r,?_,by simpa using h2⟩
   refine Ev.step (fun k=>by rw [eV]) ?_
   refine Ev.dT (by omega) (Ev.opt (dL hlt) (Ev.bind hw ?_))
   rw [hf,bZ (by omega)]
   exact Ev.isF (by simp) h1
theorem bDZ:∀ t:Tr,t.w≤1099511627776→Ev (fun K=>qM K t) (sH t):=Tr.ind
 (fun _=>Ev.step (fun k=>by rw [qM]) (Ev.pure' aLE.symm))
 fun k n nm mk ks ih h=>by
  obtain ⟨h1,h2⟩:=aUj h
  refine Ev.step (fun k=>by rw [qM]) ?_
  obtain ⟨r,g1,g2⟩:=aTM h2 (fun x hx=>ih x hx (by have:=aB1 hx; omega)) ks.length 0 (by omega)
  refine Ev.bind (a:=!aSJ ks) ?_ (Ev.pure' (by rw [aFU,Bool.not_not]))
  refine Ev.step (fun k=>by rw [slices_ContainsFunc]) (Ev.bind (a:=r) (Ev.step (fun k=>by rw [slices_IndexFunc]; rfl) g1) (Ev.pure' (by simpa using g2)))
def qD:Tr→Nat→List Cell
 | .nil,_=>[]
 | .node k n nm mk ks,f=>(go ks f [] []).2++[⟨k,n,nm,mk,(go ks f [] []).1⟩]
where go:List Tr→Nat→List Int→List Cell→List Int×List Cell
 | [],_,kids,out=>(kids,out)
 | t :: ts,f,kids,out=>go ts f (kids++[((f+(out++qD t (f+out.length)).length:Nat):Int) - 1]) (out++qD t (f+out.length))
abbrev aHn (l:List Tr) (f:Nat) (kids:List Int) (out:List Cell):List Int×List Cell:=qD.go l f kids out
theorem aUi (f:Nat) (kids:List Int) (out:List Cell):aHn [] f kids out=(kids,out):=by simp [qD.go]
theorem aQZ (t:Tr) (ts:List Tr) (f:Nat) (kids:List Int) (out:List Cell) :
  aHn (t :: ts) f kids out=aHn ts f (kids++[((f+(out++qD t (f+out.length)).length:Nat):Int) - 1]) (out++qD t (f+out.length)):=by simp [qD.go]
theorem aZs (f:Nat):qD .nil f=[]:=by simp [qD]
theorem aQW {k n nm mk ks} (f:Nat):qD (Tr.node k n nm mk ks) f=(aHn ks f [] []).2++[⟨k,n,nm,mk,(aHn ks f [] []).1⟩]:=by simp [qD]
theorem aTV:∀ {l:List Tr} (f:Nat) (kids:List Int) (out:List Cell),(∀ x∈l,∀ f,(qD x f).length=mV x)→(aHn l f kids out).2.length=out.length+aJp l
 | [],f,kids,out,_=>by simp [aUi,aLy]
 | t :: l,f,kids,out,h=>by
  rw [aQZ,aFx,aTV (l:=l) _ _ _ fun x hx=>h x (List.mem_cons_of_mem _ hx),List.length_append,h t List.mem_cons_self]
  omega
theorem aZ2:∀ (t:Tr) (f:Nat),(qD t f).length=mV t:=Tr.ind (by simp [aZs,aPD]) fun k n nm mk ks ih f=>by
 rw [aQW,aCk,List.length_append,aTV _ _ _ ih]; simp; omega
theorem aYI {a b:Int} {nm mk:List UInt8} {ks:List Tr} {acc:List Cell} (hl:ks.length≤1099511627776)
  (ih:∀ x∈ks,∀ acc:List Cell,acc.length+x.w≤1099511627776→Ev (fun K=>qS K x acc) ((((acc++qD x acc.length).length:Nat):Int) - 1,acc++qD x acc.length)):∀ (m i:Nat) (kids:List Int) (out:List Cell),ks.length=i+m→kids.length=i→acc.length+out.length+wL (ks.drop i)≤1099511627776 →
  Ev (fun K=>lA K ks (i:Int) (acc++out) a b nm mk kids) ((((acc++((aHn (ks.drop i) acc.length kids out).2++[(⟨a,b,nm,mk,(aHn (ks.drop i) acc.length kids out).1⟩:Cell)])).length:Nat):Int) - 1,acc++((aHn (ks.drop i) acc.length kids out).2++[⟨a,b,nm,mk,(aHn (ks.drop i) acc.length kids out).1⟩])):=by
 intro m
 induction m with
 | zero =>
  intro i kids out hi hk ho
  refine Ev.step (fun k=>by rw [lA]) ?_
  have hd:ks.drop i=[]:=List.drop_of_length_le (by omega)
  rw [hd] at ho ⊢
  rw [aUi]
  refine Ev.dF (by omega) (Ev.opt (cJ (by simp; omega)) (Ev.pure' ?_))
  rw [eU (by simp; omega) (by simp; omega),List.append_assoc]
 | succ m ihm =>
  intro i kids out hi hk ho
  have hlt:i<ks.length:=by omega
  rw [iL hlt,aC] at ho
  rw [iL hlt,aQZ]
  have hc:=aZ2 ks[i] (acc.length+out.length)
  have hs:=aXs ks[i]
  have hw:=aVK ks[i]
  refine Ev.step (fun k=>by rw [lA]) ?_
  refine Ev.dT (by omega) (Ev.opt (dL hlt) ?_)
  refine Ev.bind (ih _ (List.getElem_mem hlt) (acc++out) (by simp; omega)) ?_
  have hlen:(out++qD ks[i] (acc.length+out.length)).length=out.length+mV ks[i]:=by rw [List.length_append,hc]
  refine Ev.opt (cJ (by simp; omega)) ?_
  rw [bZ (by omega)]
  have:=ihm (i+1) (kids++[((acc.length+(out++qD ks[i] (acc.length+out.length)).length:Nat):Int) - 1]) (out++qD ks[i] (acc.length+out.length)) (by omega) (by simp [hk]) (by omega)
  simpa [Nat.add_assoc] using this
theorem bIf:∀ t:Tr,sH t=true→∀ acc:List Cell,acc.length+t.w≤1099511627776→Ev (fun K=>qS K t acc) ((((acc++qD t acc.length).length:Nat):Int) - 1,acc++qD t acc.length):=Tr.ind
 (fun h=>by rw [aLE] at h; cases h)
 fun k n nm mk ks ih h acc hf=>by
  rw [aFU] at h
  rw [aH] at hf
  have hl:=aGJ ks
  refine Ev.step (fun k=>by rw [qS]) ?_
  have:=aYI (a:=k) (b:=n) (nm:=nm) (mk:=mk) (acc:=acc) (by omega) (fun x hx f' hf'=>ih x hx (aHU.1 h x hx) f' hf') ks.length 0 [] [] (by omega) rfl (by simp; omega)
  rw [aQW]
  simpa using this
def aJc (t:Tr):List Cell×Int:=if sH t=true then (if 8192<mV t then ([],3) else (qD t 0,0)) else ([],1)
theorem bEI (t:Tr) (h:t.w≤1099511627776):Ev (fun K=>wT K t) (aJc t):=by
 unfold wT aJc
 refine Ev.bind (bDZ t h) ?_
 by_cases hf:sH t=true
 ·rw [if_pos hf]
  refine Ev.isF (by simp [hf]) (Ev.bind (bAS t h) ?_)
  by_cases hz:8192<mV t
  ·rw [if_pos hz]; exact Ev.dT (by omega) Ev.pure
  ·rw [if_neg hz]
   refine Ev.dF (by omega) (Ev.bind (bIf t hf [] (by simpa using h)) (Ev.pure' ?_))
   simp
 ·rw [if_neg hf]
  exact Ev.isT (by simp [hf]) Ev.pure
end Go.Proofs.YtjhfgiieicloeaaGreatDoor

/- Plain facts of trees, part 3: what cells are opened to. -/
namespace Go.Proofs.YtjhfgiieicloeaaGreatDoor
open Go Go.Am Go.Sx
def pR (l:List Cell):List Int:=l.flatMap (fun c:Cell=>c.2.2.2.2)
theorem aJP (l m:List Cell):pR (l++m)=pR l++pR m:=by simp [pR]
theorem bDQ (c:Cell):pR [c]=c.2.2.2.2:=by simp [pR]
theorem aLA {p:List Cell} {i:Nat} (h:i<p.length):pR (p.take (i+1))=pR (p.take i)++p[i].2.2.2.2:=by
 rw [nG h,aJP,bDQ]
def aVI (acc:List Tr) (c:Cell):List Tr:=acc++[.node c.1 c.2.1 c.2.2.1 c.2.2.2.1 (c.2.2.2.2.map fun k=>acc.getD k.toNat .nil)]
def iI (l:List Cell):List Tr:=l.foldl aVI []
theorem bDB:∀ (l:List Cell) (acc:List Tr),∃ r,l.foldl aVI acc=acc++r∧r.length=l.length
 | [],acc=>⟨[],by simp,rfl⟩
 | c :: l,acc=>by
  obtain ⟨r,h1,h2⟩:=bDB l (aVI acc c)
  refine ⟨.node c.1 c.2.1 c.2.2.1 c.2.2.2.1 (c.2.2.2.2.map fun k=>acc.getD k.toNat .nil) :: r,?_,by simp [h2]⟩
  rw [List.foldl_cons,h1,aVI]; simp
theorem aFW (l:List Cell):(iI l).length=l.length:=by
 obtain ⟨r,h1,h2⟩:=bDB l []
 rw [iI,h1]; simpa using h2
theorem aZN (l m:List Cell):∃ r,iI (l++m)=iI l++r:=by
 obtain ⟨r,h1,_⟩:=bDB m (iI l)
 exact ⟨r,by rw [iI,List.foldl_append]; exact h1⟩
theorem aXC (l:List Cell) (c:Cell):iI (l++[c])=aVI (iI l) c:=by simp [iI]
theorem aQ5 {p:List Cell} {i:Nat} (h:i<p.length):iI (p.take (i+1))=iI (p.take i)++[.node p[i].1 p[i].2.1 p[i].2.2.1 p[i].2.2.2.1 (p[i].2.2.2.2.map fun k=>(iI (p.take i)).getD k.toNat .nil)]:=by
 rw [nG h,aXC,aVI]
theorem aGo {p:List Cell} {i j:Nat} (hj:j<i) (hi:i≤p.length):(iI (p.take i)).getD j .nil=(iI p).getD j .nil:=by
 obtain ⟨r,hr⟩:=aZN (p.take i) (p.drop i)
 rw [List.take_append_drop] at hr
 have hl:=aFW (p.take i)
 rw [List.length_take] at hl
 rw [hr,List.getD_eq_getElem?_getD,List.getD_eq_getElem?_getD,List.getElem?_append_left (by omega)]
theorem aP8 {p:List Cell} {i:Nat} (h:i<p.length):(iI p).getD i .nil=.node p[i].1 p[i].2.1 p[i].2.2.1 p[i].2.2.2.1 (p[i].2.2.2.2.map fun k=>(iI (p.take i)).getD k.toNat .nil):=by
 have hl:=aFW (p.take i)
 rw [List.length_take] at hl
 rw [← aGo (i:=i+1) (by omega) (by omega),aQ5 h,List.getD_eq_getElem?_getD,List.getElem?_append_right (by omega)]
 rw [show i - (iI (p.take i)).length=0 by omega]
 rfl
def aUd (p:List Cell) (n:Nat):Prop:=∀ (i:Nat) (h:i<p.length),i<n→∀ k∈p[i].2.2.2.2,0≤k∧k<i
open Classical in
noncomputable def xQ (p:List Cell):Tr×Int :=
 if p.length=0 then (.nil,1) else if 8192<p.length then (.nil,3)
 else if aUd p p.length∧∀ j:Nat,j+1<p.length→(pR p).count (j:Int)=1 then ((iI p).getD (p.length - 1) .nil,0) else (.nil,16)
theorem aNG {p:List Cell} (h0:p.length≠0) (h1:p.length≤8192) (hn:¬ (aUd p p.length∧∀ j:Nat,j+1<p.length→(pR p).count (j:Int)=1)):xQ p=(.nil,16):=by
 unfold xQ; rw [if_neg h0,if_neg (by omega),if_neg hn]
theorem aY4 {p:List Cell} (h0:p.length≠0) (h1:p.length≤8192) (hn:aUd p p.length∧∀ j:Nat,j+1<p.length→(pR p).count (j:Int)=1):xQ p=((iI p).getD (p.length - 1) .nil,0):=by
 unfold xQ; rw [if_neg h0,if_neg (by omega),if_pos hn]
theorem aV4 {p:List Cell} (h1:p.length≤8192) {i:Nat} (hi:i<p.length) {k:Int} (hk:k∈p[i].2.2.2.2) (hb:¬ (0≤k∧k<i)):xQ p=(.nil,16) :=
 aNG (by omega) h1 fun h=>hb (h.1 i hi hi k hk)
theorem aVA {l:List Int} {j:Nat} (h:j<l.length) (s:List Int):s++l.take (j+1)=(s++l.take j)++[l[j]]:=by
 rw [nG h,List.append_assoc]
end Go.Proofs.YtjhfgiieicloeaaGreatDoor

/- Plain facts of trees, part 4: an opened tree is whole and as large as its cells. -/
namespace Go.Proofs.YtjhfgiieicloeaaGreatDoor
open Go Go.Am Go.Sx
def aDJ (W:Nat→Nat) (seen:List Int) (i:Nat):Nat:=((List.range i).map fun j:Nat=>if (j:Int)∈seen then 0 else W j).sum
theorem aGr (W:Nat→Nat) (seen:List Int) (i:Nat):aDJ W seen (i+1)=aDJ W seen i+if (i:Int)∈seen then 0 else W i:=by
 unfold aDJ
 rw [List.range_succ,List.map_append,List.sum_append]
 simp
theorem aYG {W:Nat→Nat} {seen:List Int} {k:Int} (h0:0≤k) (hn:k∉seen):∀ i:Nat,aDJ W (seen++[k]) i+(if k<i then W k.toNat else 0)=aDJ W seen i:=by
 intro i
 induction i with
 | zero=>rw [if_neg (by omega)]; simp [aDJ]
 | succ i ih =>
  rw [aGr,aGr]
  by_cases e:k=(i:Int)
  ·subst e
   rw [if_neg (by omega)] at ih
   rw [if_pos (by simp),if_pos (by omega),if_neg hn]
   simp only [Int.toNat_natCast]
   omega
  ·have hm:((i:Int)∈seen++[k])↔(i:Int)∈seen:=by
    rw [List.mem_append,List.mem_singleton]
    exact ⟨fun h=>h.elim id fun h=>absurd h.symm e,.inl⟩
   simp only [hm]
   by_cases hlt:k<(i:Int)
   ·rw [if_pos hlt] at ih; rw [if_pos (show k<((i+1:Nat):Int) by omega)]; omega
   ·rw [if_neg hlt] at ih; rw [if_neg (show ¬ k<((i+1:Nat):Int) by omega)]; omega
theorem aPh {W:Nat→Nat} {i:Nat}:∀ (ks seen:List Int),(∀ k∈ks,0≤k∧k<i)→(seen++ks).Nodup→aDJ W (seen++ks) i+(ks.map fun k=>W k.toNat).sum=aDJ W seen i
 | [],seen,_,_=>by simp
 | k :: ks,seen,h,hn=>by
  have hk:=h k List.mem_cons_self
  have e:seen++k :: ks=(seen++[k])++ks:=by simp
  rw [e] at hn ⊢
  have h1:=aPh (W:=W) ks (seen++[k]) (fun x hx=>h x (List.mem_cons_of_mem _ hx)) hn
  have hns:k∉seen:=by
   have:=(List.nodup_append.1 hn).1
   intro hm
   exact (List.nodup_append.1 this).2.2 k hm k (by simp) rfl
  have h2:=aYG (W:=W) hk.1 hns i
  rw [if_pos hk.2] at h2
  rw [List.map_cons,List.sum_cons]
  omega
theorem bDq {α:Type} (f:α→Tr):∀ l:List α,wL (l.map f)=(l.map fun x=>(f x).w).sum
 | []=>by simp [aK]
 | x :: l=>by rw [List.map_cons,aC,bDq f l]; simp
theorem aYa:∀ l:List Nat,(l.map fun _=>0).sum=0
 | []=>rfl
 | _ :: l=>by rw [List.map_cons,List.sum_cons,aYa l]
section
variable {p:List Cell} (hv:aUd p p.length)
include hv
theorem aZM {i:Nat} (hi:i≤p.length):∀ k∈pR (p.take i),0≤k∧k+1<max i 1:=by
 induction i with
 | zero=>intro k hk; simp [pR] at hk
 | succ i ih =>
  intro k hk
  rw [aLA (by omega)] at hk
  rcases List.mem_append.1 hk with h | h
  ·have:=ih (by omega) k h; omega
  ·have:=hv i (by omega) (by omega) k h; omega
theorem roots_are (hn:(pR p).Nodup):∀ i:Nat,i≤p.length→aDJ (fun j=>((iI p).getD j .nil).w) (pR (p.take i)) i=i:=by
 intro i
 induction i with
 | zero=>intro _; simp [aDJ]
 | succ i ih =>
  intro hi
  have hl:i<p.length:=by omega
  have hsub:(pR (p.take (i+1))).Nodup:=by
   have e:pR p=pR (p.take (i+1))++pR (p.drop (i+1)):=by rw [← aJP,List.take_append_drop]
   rw [e] at hn
   exact (List.nodup_append.1 hn).1
  rw [aGr]
  have hni:(i:Int)∉pR (p.take (i+1)):=fun hm=>by
   have:=aZM hv hi _ hm; omega
  rw [if_neg hni,aP8 hl,aH,bDq]
  rw [aLA hl] at hsub ⊢
  have hk:=hv i hl hl
  have:=aPh (W:=fun j=>((iI p).getD j .nil).w) p[i].2.2.2.2 (pR (p.take i)) hk hsub
  have hmap:(p[i].2.2.2.2.map fun k=>((iI (p.take i)).getD k.toNat .nil).w)=p[i].2.2.2.2.map fun k=>((iI p).getD k.toNat .nil).w:=by
   apply List.map_congr_left
   intro k hm
   have:=hk k hm
   rw [aGo (by omega) (by omega)]
  rw [hmap]
  have:=ih (by omega)
  omega
theorem aUr (hc:∀ j:Nat,j+1<p.length→(pR p).count (j:Int)=1):(pR p).Nodup:=by
 rw [List.nodup_iff_count]
 intro a
 by_cases hm:a∈pR p
 ·have:=aZM hv (Nat.le_refl _) a (by rw [List.take_length]; exact hm)
  have h1:=hc a.toNat (by omega)
  rw [Int.toNat_of_nonneg this.1] at h1
  omega
 ·rw [List.count_eq_zero.2 hm]; omega
theorem aZm:∀ n i:Nat,i<n→i<p.length→sH ((iI p).getD i .nil)=true:=by
 intro n
 induction n with
 | zero=>intro i h; omega
 | succ n ih =>
  intro i hi hl
  rw [aP8 hl,aFU,aHU]
  intro x hx
  obtain ⟨k,hk,rfl⟩:=List.mem_map.1 hx
  have:=hv i hl hl k hk
  rw [aGo (by omega) (by omega)]
  exact ih _ (by omega) (by omega)
end
theorem bHv:∀ t:Tr,sH t=true→t.w=mV t:=Tr.ind (fun h=>by rw [aLE] at h; cases h) fun k n nm mk ks ih h=>by
 rw [aFU,aHU] at h
 rw [aH,aCk]
 have:∀ l:List Tr,(∀ x∈l,x.w=mV x)→wL l=aJp l:=by
  intro l
  induction l with
  | nil=>intro _; simp [aK,aLy]
  | cons x l ihl=>intro hh; rw [aC,aFx,hh x List.mem_cons_self,ihl fun y hy=>hh y (List.mem_cons_of_mem _ hy)]
 rw [this ks fun x hx=>ih x hx (h x hx)]
theorem aKh (p:List Cell):((xQ p).1=.nil∧(xQ p).2≠0)∨((xQ p).2=0∧p.length≠0∧p.length≤8192∧sH (xQ p).1=true∧mV (xQ p).1=p.length∧(xQ p).1.w=p.length ∧
  (xQ p).1=(iI p).getD (p.length - 1) .nil∧aUd p p.length∧∀ j:Nat,j+1<p.length→(pR p).count (j:Int)=1):=by
 unfold xQ
 by_cases h0:p.length=0
 ·rw [if_pos h0]; exact .inl ⟨rfl,by decide⟩
 rw [if_neg h0]
 by_cases h1:8192<p.length
 ·rw [if_pos h1]; exact .inl ⟨rfl,by decide⟩
 rw [if_neg h1]
 split
 ·rename_i hg
  refine .inr ⟨rfl,h0,by omega,?_⟩
  have hn:=aUr hg.1 hg.2
  have hf:=aZm hg.1 p.length (p.length - 1) (by omega) (by omega)
  have hr:=roots_are hg.1 hn p.length (Nat.le_refl _)
  rw [List.take_length] at hr
  obtain ⟨n,hnl⟩:∃ n,p.length=n+1:=⟨p.length - 1,by omega⟩
  rw [hnl,aGr] at hr
  have hz:aDJ (fun j=>((iI p).getD j .nil).w) (pR p) n=0:=by
   unfold aDJ
   have:((List.range n).map fun j:Nat=>if (j:Int)∈pR p then 0 else ((iI p).getD j .nil).w)=(List.range n).map fun _=>0:=by
    apply List.map_congr_left
    intro j hj
    rw [List.mem_range] at hj
    have:=hg.2 j (by omega)
    rw [if_pos (List.count_pos_iff.1 (by omega))]
   rw [this]
   exact aYa _
  have hni:(n:Int)∉pR p:=fun hm=>by
   have:=aZM hg.1 (Nat.le_refl _) _ (by rw [List.take_length]; exact hm); omega
  rw [hz,if_neg hni] at hr
  have hw:((iI p).getD (p.length - 1) .nil).w=p.length:=by rw [hnl,Nat.add_sub_cancel]; omega
  exact ⟨hf,by rw [← bHv _ hf]; exact hw,hw,rfl,hg.1,hg.2⟩
 ·exact .inl ⟨rfl,by decide⟩
theorem bAo (p:List Cell):(xQ p).1.w≤8192:=by
 rcases aKh p with ⟨h,_⟩ | h
 ·rw [h]; decide
 ·omega
end Go.Proofs.YtjhfgiieicloeaaGreatDoor

/- Plain facts of trees, part 9: the program's way to open cells. -/
namespace Go.Proofs.YtjhfgiieicloeaaGreatDoor
open Go Go.Am Go.Sx
def aBD (n:Nat) (seen:List Int):List Bool:=(List.range n).map fun j:Nat=>decide ((j:Int)∈seen)
theorem aIH (n:Nat) (s:List Int):(aBD n s).length=n:=by simp [aBD]
theorem aSS {n:Nat} {s:List Int} {k:Int} (h0:0≤k) (h:k<n):aT (aBD n s) k=some (decide (k∈s)):=by
 unfold aT aBD
 rw [if_pos h0,List.getElem?_map,List.getElem?_range (by omega)]
 simp [Int.toNat_of_nonneg h0]
theorem bAe {n:Nat} {s:List Int} {k:Int} (h0:0≤k):(aBD n s).set k.toNat true=aBD n (s++[k]):=by
 apply List.ext_getElem?
 intro j
 unfold aBD
 rw [List.getElem?_set]
 simp only [List.length_map,List.length_range,List.getElem?_map]
 by_cases e:k.toNat=j
 ·subst e
  by_cases hl:k.toNat<n
  ·rw [if_pos rfl,if_pos hl,List.getElem?_range hl]
   simp [Int.toNat_of_nonneg h0]
  ·rw [if_pos rfl,if_neg hl,List.getElem?_eq_none (by simp; omega)]; rfl
 ·rw [if_neg e]
  by_cases hl:j<n
  ·rw [List.getElem?_range hl]
   have hne:¬ (j:Int)=k:=by omega
   simp [List.mem_append,hne]
  ·rw [List.getElem?_eq_none (by simp; omega)]; rfl

def aBT (p:List Cell) (i:Nat):List Tr:=iI (p.take i)++List.replicate (p.length - i) .nil
theorem aGj {p:List Cell} {i:Nat} (h:i≤p.length):(aBT p i).length=p.length:=by
 have:=aFW (p.take i)
 rw [List.length_take] at this
 simp [aBT]; omega
theorem aQ6 {p:List Cell} {i:Nat} {k:Int} (h0:0≤k) (hk:k<i) (h:i≤p.length):aT (aBT p i) k=some ((iI (p.take i)).getD k.toNat .nil):=by
 have:=aFW (p.take i)
 rw [List.length_take] at this
 unfold aT aBT
 rw [if_pos h0,List.getElem?_append_left (by omega),List.getD_eq_getElem?_getD,List.getElem?_eq_getElem (by omega)]
 rfl
theorem aYl {p:List Cell} {i:Nat} (h:i<p.length) :
  (aBT p i).set i (.node p[i].1 p[i].2.1 p[i].2.2.1 p[i].2.2.2.1 (p[i].2.2.2.2.map fun k=>(iI (p.take i)).getD k.toNat .nil))=aBT p (i+1):=by
 have hl:=aFW (p.take i)
 rw [List.length_take] at hl
 unfold aBT
 rw [aQ5 h,List.set_append,if_neg (by omega),show i - (iI (p.take i)).length=0 by omega,show p.length - i=(p.length - (i+1))+1 by omega,List.replicate_succ,List.set_cons_zero]
 simp

theorem aVq {l:List Bool} (hl:l.length≤1099511627776):∀ (m i:Nat),l.length=i+m→∃ r:Int,Ev (fun K=>hY K l false (i:Int)) r∧(0≤r↔false∈l.drop i):=by
 intro m
 induction m with
 | zero =>
  intro i hi
  refine ⟨-1,Ev.step (fun k=>by rw [hY]) (Ev.dF (by omega) Ev.pure),?_⟩
  rw [List.drop_of_length_le (by omega)]; simp
 | succ m ih =>
  intro i hi
  have hlt:i<l.length:=by omega
  rw [iL hlt]
  cases hb:l[i] with
  | false =>
   refine ⟨i,Ev.step (fun k=>by rw [hY]) (Ev.dT (by omega) (Ev.opt (dL hlt) ?_)),by simp⟩
   rw [hb]
   exact Ev.isT rfl Ev.pure
  | true =>
   obtain ⟨r,h1,h2⟩:=ih (i+1) (by omega)
   refine ⟨r,Ev.step (fun k=>by rw [hY]) (Ev.dT (by omega) (Ev.opt (dL hlt) ?_)),by rw [h2]; simp⟩
   rw [hb,bZ (by omega)]
   exact Ev.isF rfl h1

theorem aWD {l:List Bool} (hl:l.length≤1099511627776):Ev (fun K=>qY K l false) (eqB (false∈l) True):=by
 obtain ⟨r,h1,h2⟩:=aVq hl l.length 0 (by omega)
 unfold qY aBF
 refine Ev.bind h1 (Ev.pure' ?_)
 rw [List.drop_zero] at h2
 by_cases h:false∈l
 ·rw [bJI (h2.2 h),bGA (by simp [h])]
 ·rw [bGh (by simp [h])]
  exact decide_eq_false fun hr=>h (h2.1 hr)

theorem aX8 {p:List Cell} (h0:p.length≠0) (h1:p.length≤8192) {i j:Nat} (hi:i<p.length) (hj:j<p[i].2.2.2.2.length) (hb:0≤p[i].2.2.2.2[j]∧p[i].2.2.2.2[j]<i) (hm:p[i].2.2.2.2[j]∈pR (p.take i)++p[i].2.2.2.2.take j):xQ p=(.nil,16):=by
 refine aNG h0 h1 fun h=>?_
 have hc:=h.2 p[i].2.2.2.2[j].toNat (by omega)
 rw [Int.toNat_of_nonneg hb.1] at hc
 have e:pR p=(pR (p.take i)++p[i].2.2.2.2.take j)++p[i].2.2.2.2[j] :: (p[i].2.2.2.2.drop (j+1)++pR (p.drop (i+1))):=by
  have e1:pR p=pR (p.take (i+1))++pR (p.drop (i+1)):=by rw [← aJP,List.take_append_drop]
  have e2:p[i].2.2.2.2=p[i].2.2.2.2.take j++p[i].2.2.2.2[j] :: p[i].2.2.2.2.drop (j+1):=by rw [← iL hj,List.take_append_drop]
  rw [e1,aLA hi,List.append_assoc,List.append_assoc]
  congr 1
  rw [← List.cons_append,← List.append_assoc,← e2]
 rw [e,List.count_append,List.count_cons,if_pos (by simp)] at hc
 have:=List.count_pos_iff.2 hm
 omega

section
variable {p:List Cell} (h0:p.length≠0) (h1:p.length≤8192) (hk:∀ c∈p,c.2.2.2.2.length≤1048576)
include h0 h1 hk

theorem aZj:∀ (m i:Nat),p.length=i+m→aUd p i→(pR (p.take i)).Nodup→Ev (fun K=>oS K p (aBT p i) (aBD p.length (pR (p.take i))) (i:Int)) (xQ p):=by
 intro m
 induction m with
 | zero =>
  intro i hi hv hn
  refine Ev.step (fun k=>by rw [oS]) ?_
  refine Ev.dF (by omega) ?_
  have e:i=p.length:=by omega
  subst e
  rw [List.take_length] at hn ⊢
  rw [eU (by omega) (by omega),show (p.length:Int) - 1=((p.length - 1:Nat):Int) by omega]
  refine Ev.opt (tO (a:=0) (by omega) (by rw [aIH]; omega)) ?_
  refine Ev.bind (aWD (by simp [aIH]; omega)) ?_
  have hmem:(false∈((aBD p.length (pR p)).take (p.length - 1)).drop 0)↔∃ j:Nat,j+1<p.length∧(j:Int)∉pR p:=by
   rw [List.drop_zero,aBD,← List.map_take,List.take_range,Nat.min_eq_left (by omega)]
   simp only [List.mem_map,List.mem_range,decide_eq_false_iff_not]
   exact ⟨fun ⟨j,h1,h2⟩=>⟨j,by omega,h2⟩,fun ⟨j,h1,h2⟩=>⟨j,by omega,h2⟩⟩
  by_cases hx:∃ j:Nat,j+1<p.length∧(j:Int)∉pR p
  ·refine Ev.isT (bGA (eq_true (hmem.2 hx))) (Ev.pure' ?_)
   obtain ⟨j,h2,h3⟩:=hx
   refine (aNG h0 h1 fun h=>?_).symm
   have:=h.2 j h2
   rw [List.count_eq_zero.2 h3] at this
   omega
  ·refine Ev.isF (bGh (fun h=>hx (hmem.1 (of_eq_true h)))) ?_
   rw [aY4 h0 h1 ⟨hv,fun j hj=>?_⟩]
   ·refine Ev.iteT ⟨by omega,by rw [aGj (Nat.le_refl _)]; omega⟩ (Ev.opt (aQ6 (by omega) (by omega) (Nat.le_refl _)) (Ev.pure' ?_))
    rw [List.take_length]
    rfl
   ·have hm:(j:Int)∈pR p:=by
     by_cases hm:(j:Int)∈pR p
     ·exact hm
     ·exact absurd ⟨j,hj,hm⟩ hx
    have:=List.count_pos_iff.2 hm
    have:=List.nodup_iff_count.1 hn (j:Int)
    omega
 | succ m ih =>
  intro i hi hv hn
  have hl:i<p.length:=by omega
  have hkk:=hk _ (List.getElem_mem hl)
  refine Ev.step (fun k=>by rw [oS]) (Ev.dT (by omega) (Ev.opt (dL hl) ?_))
  have loop:∀ (m' j:Nat),p[i].2.2.2.2.length=j+m'→(∀ k∈p[i].2.2.2.2.take j,0≤k∧k<i)→(pR (p.take i)++p[i].2.2.2.2.take j).Nodup →
    Ev (fun K=>oO K p (aBT p i) (aBD p.length (pR (p.take i)++p[i].2.2.2.2.take j)) (i:Int) (i:Int) p[i].2.2.2.2 (j:Int) p[i].1 p[i].2.1 p[i].2.2.1 p[i].2.2.2.1 ((p[i].2.2.2.2.take j).map fun k=>(iI (p.take i)).getD k.toNat .nil)) (xQ p):=by
   intro m'
   induction m' with
   | zero =>
    intro j hj hg hnn
    refine Ev.step (fun k=>by rw [oO]) (Ev.dF (by omega) ?_)
    rw [List.take_of_length_le (l:=p[i].2.2.2.2) (by omega)] at hg hnn ⊢
    refine Ev.iteT ⟨by omega,by rw [aGj (by omega)]; omega⟩ (Ev.opt (dL (by rw [aGj (by omega)]; omega)) ?_)
    rw [bZ (by omega),Int.toNat_natCast,aYl hl]
    rw [← aLA hl] at hnn ⊢
    refine ih (i+1) (by omega) (fun i' h' hlt k hk'=>?_) hnn
    by_cases e:i'=i
    ·subst e; exact hg k hk'
    ·exact hv i' h' (by omega) k hk'
   | succ m' ihm =>
    intro j hj hg hnn
    have hjl:j<p[i].2.2.2.2.length:=by omega
    refine Ev.step (fun k=>by rw [oO]) (Ev.dT (by omega) (Ev.opt (dL hjl) ?_))
    refine Ev.d (fun e=>Ev.pure' (aV4 h1 hl (List.getElem_mem hjl) (by omega)).symm) fun e=>?_
    refine Ev.d (fun e2=>Ev.pure' (aV4 h1 hl (List.getElem_mem hjl) (by omega)).symm) fun e2=>?_
    refine Ev.iteT ⟨by omega,by rw [aIH]; omega⟩ (Ev.opt (aSS (by omega) (by omega)) ?_)
    refine Ev.d (fun e3=>Ev.pure' (aX8 h0 h1 hl hjl ⟨by omega,by omega⟩ e3).symm) fun e3=>?_
    refine Ev.iteT ⟨by omega,by rw [aIH]; omega⟩ (Ev.opt (aSS (by omega) (by omega)) ?_)
    refine Ev.iteT ⟨by omega,by rw [aGj (by omega)]; omega⟩ (Ev.opt (aQ6 (by omega) (by omega) (by omega)) (Ev.opt (cJ (by simp; omega)) ?_))
    rw [bZ (by omega),bAe (by omega),← aVA hjl]
    have:=ihm (j+1) (by omega) (fun k hk'=>?_) ?_
    ·rw [nG hjl,List.map_append,List.map_cons,List.map_nil] at this
     rw [nG hjl]
     exact this
    ·rw [nG hjl] at hk'
     rcases List.mem_append.1 hk' with h | h
     ·exact hg k h
     ·rw [List.mem_singleton.1 h]; omega
    ·rw [aVA hjl,List.nodup_append]
     refine ⟨hnn,by simp,fun a ha b hb=>?_⟩
     rw [List.mem_singleton.1 hb]
     exact fun e=>e3 (e ▸ ha)
  have:=loop p[i].2.2.2.2.length 0 (by omega) (by simp) (by simpa using hn)
  simpa using this
end

theorem bFV {p:List Cell} (hk:∀ c∈p,c.2.2.2.2.length≤1048576):Ev (fun K=>aFP K p) (xQ p):=by
 unfold aFP
 by_cases h0:p.length=0
 ·refine Ev.dT (by omega) (Ev.pure' ?_)
  unfold xQ; rw [if_pos h0]
 refine Ev.dF (by omega) ?_
 by_cases h1:8192<p.length
 ·refine Ev.dT (by omega) (Ev.pure' ?_)
  unfold xQ; rw [if_neg h0,if_pos h1]
 refine Ev.dF (by omega) (Ev.opt (aZ1 (by omega)) (Ev.opt (aZ1 (by omega)) ?_))
 have:=aZj h0 (by omega) hk p.length 0 (by omega) (fun i _ hi=>by omega) (by simp [pR])
 have e:aBD p.length (pR (p.take 0))=List.replicate p.length false:=by
  apply List.ext_getElem
  ·simp [aBD]
  ·intro j h1 h2; simp [aBD,pR]
 rw [e] at this
 have e2:aBT p 0=List.replicate p.length .nil:=by simp [aBT,iI]
 rw [e2] at this
 exact this
end Go.Proofs.YtjhfgiieicloeaaGreatDoor

/- Shapes, part 1: what a tree of a category is, by the table. -/
namespace Go.Proofs.YtjhfgiieicloeaaGreatDoor
open Go Go.Am Go.Sx

inductive Good:Tr→Prop
 | mk {k n nm mk ks} (h1:nm.length≤1099511627776) (h2:mk.length≤1099511627776) (h3:ks.length≤1099511627776) (h4:∀ x∈ks,Good x):Good (.node k n nm mk ks)

abbrev Row:=Int×Int×List UInt8×List UInt8×Int×Int×List UInt8
def aTE:List Row:=([(1,1,([]:List UInt8),([]:List UInt8),0,0,([]:List UInt8)),(1,2,([]:List UInt8),([]:List UInt8),0,0,([]:List UInt8)),(1,3,([]:List UInt8),([]:List UInt8),0,0,([]:List UInt8)),(1,4,([108]:List UInt8),([]:List UInt8),0,0,([]:List UInt8)),(1,5,([]:List UInt8),([]:List UInt8),0,0,([116,116]:List UInt8)),(1,6,([]:List UInt8),([]:List UInt8),0,0,([116,116]:List UInt8)),(1,7,([110]:List UInt8),([]:List UInt8),0,0,([67]:List UInt8)),(2,20,([]:List UInt8),([]:List UInt8),(IntKind.i64.wrap (0 - 1073741824)),1073741824,([]:List UInt8)),(2,21,([]:List UInt8),([]:List UInt8),0,1,([]:List UInt8)),(2,22,([]:List UInt8),([]:List UInt8),0,0,([]:List UInt8)),(2,23,([108]:List UInt8),([]:List UInt8),0,0,([]:List UInt8)),(2,24,([110]:List UInt8),([]:List UInt8),0,0,([116,101]:List UInt8)),(2,25,([]:List UInt8),([]:List UInt8),0,0,([101,101]:List UInt8)),(2,26,([]:List UInt8),([]:List UInt8),0,0,([101,101]:List UInt8)),(2,27,([]:List UInt8),([]:List UInt8),0,0,([101]:List UInt8)),(2,28,([]:List UInt8),([]:List UInt8),0,0,([101]:List UInt8)),(2,29,([110]:List UInt8),([]:List UInt8),0,0,([101,101]:List UInt8)),(2,30,([]:List UInt8),([]:List UInt8),0,0,([101,101,101]:List UInt8)),(2,31,([]:List UInt8),([]:List UInt8),1,5,([101,101]:List UInt8)),(2,32,([]:List UInt8),([]:List UInt8),0,0,([101,65]:List UInt8)),(2,33,([]:List UInt8),([]:List UInt8),0,0,([101,116,65]:List UInt8)),(3,40,([]:List UInt8),([]:List UInt8),0,0,([42,105]:List UInt8)),(3,41,([108]:List UInt8),([]:List UInt8),0,0,([]:List UInt8)),(3,42,([110]:List UInt8),([]:List UInt8),0,0,([109]:List UInt8)),(3,43,([]:List UInt8),([]:List UInt8),0,1,([109,115]:List UInt8)),(4,50,([]:List UInt8),([]:List UInt8),0,0,([42,112]:List UInt8)),(4,51,([110]:List UInt8),([]:List UInt8),0,0,([]:List UInt8)),(4,52,([108]:List UInt8),([]:List UInt8),0,0,([115,116]:List UInt8)),(5,60,([110]:List UInt8),([]:List UInt8),0,0,([116]:List UInt8)),(5,61,([110]:List UInt8),([]:List UInt8),0,0,([116]:List UInt8)),(5,61,([110]:List UInt8),([]:List UInt8),0,0,([]:List UInt8)),(5,62,([110]:List UInt8),([]:List UInt8),0,0,([67]:List UInt8)),(5,63,([110]:List UInt8),([]:List UInt8),0,0,([115]:List UInt8)),(5,64,([]:List UInt8),([]:List UInt8),0,0,([115]:List UInt8)),(5,65,([108]:List UInt8),([108]:List UInt8),0,0,([]:List UInt8)),(6,70,([110]:List UInt8),([]:List UInt8),0,0,([101]:List UInt8)),(6,70,([110]:List UInt8),([]:List UInt8),0,0,([116,101]:List UInt8)),(6,71,([110]:List UInt8),([]:List UInt8),0,0,([116]:List UInt8)),(6,72,([110]:List UInt8),([]:List UInt8),0,0,([67]:List UInt8)),(6,73,([110]:List UInt8),([]:List UInt8),0,0,([109]:List UInt8)),(6,74,([110]:List UInt8),([]:List UInt8),0,0,([115]:List UInt8)),(6,75,([110]:List UInt8),([110]:List UInt8),0,0,([115,109]:List UInt8)),(6,76,([108]:List UInt8),([]:List UInt8),0,0,([]:List UInt8)),(6,77,([108]:List UInt8),([]:List UInt8),0,0,([]:List UInt8)),(7,80,([]:List UInt8),([]:List UInt8),0,0,([42,100]:List UInt8)),(8,8,([110]:List UInt8),([]:List UInt8),0,0,([116]:List UInt8)),(9,34,([110]:List UInt8),([110]:List UInt8),0,0,([101]:List UInt8))]:List (Int×Int×(List UInt8)×(List UInt8)×Int×Int×(List UInt8)))
def aM8 (s what:List UInt8):Bool:=if what=[110] then jG s else if what=[108] then lgS s else decide (s=[])
def catS (c:UInt8):Int:=if c=116 then 1 else if c=101 then 2 else if c=109 then 3 else if c=115 then 4 else if c=112 then 5 else 6
def rG (is8:Tr→Bool):List (List UInt8)→List Tr→Bool
 | _,[]=>true
 | seen,k :: ks=>is8 k && (!decide (nameOf k∈seen) && rG is8 (seen++[nameOf k]) ks)
def aOw (c:UInt8) (x:Tr):Bool:=!(decide (c=105) && (decide (kindOf x=74) || decide (kindOf x=75)))
def dG (is:Int→Tr→Bool):List UInt8→List Tr→Bool
 | [],l=>decide (l.length=0)
 | c :: w,l =>
  if c=42 then l.all fun x=>is (catS (w.headD 0)) x && aOw (w.headD 0) x
  else if c=67 then rG (is 8) [] l && decide (0<l.length)
  else if c=65 then l.all (is 9) && decide (0<l.length)
  else match l with
   | []=>false
   | k :: ks=>is (catS c) k && dG is w ks
def eD (is:Int→Tr→Bool) (n:Int) (nm mk:List UInt8) (ks:List Tr) (r:Row):Bool :=
 aM8 nm r.2.2.1 && (aM8 mk r.2.2.2.1 && (decide (r.2.2.2.2.1≤n) && (decide (n≤r.2.2.2.2.2.1) && dG is r.2.2.2.2.2.2 ks)))
def aXM (is:Int→Tr→Bool) (c:Int) (t:Tr) (r:Row):Bool:=match t with
 | .nil=>false
 | .node k n nm mk ks=>decide (r.1=c) && (decide (r.2.1=k) && eD is n nm mk ks r)
def isF:Nat→Int→Tr→Bool
 | 0,_,_=>false
 | m+1,c,t=>aTE.any (aXM (isF m) c t)
theorem aOX {f g:Tr→Bool}:∀ (l:List Tr) (s:List (List UInt8)),(∀ x∈l,f x=g x)→rG f s l=rG g s l
 | [],_,_=>rfl
 | k :: ks,s,h=>by
  unfold rG
  rw [h k List.mem_cons_self,aOX ks _ fun x hx=>h x (List.mem_cons_of_mem _ hx)]
theorem aCm {f g:Tr→Bool}:∀ (l:List Tr),(∀ x∈l,f x=g x)→l.all f=l.all g
 | [],_=>rfl
 | k :: ks,h=>by rw [List.all_cons,List.all_cons,h k List.mem_cons_self,aCm ks fun x hx=>h x (List.mem_cons_of_mem _ hx)]
theorem aQO {f g:Int→Tr→Bool}:∀ (w:List UInt8) (l:List Tr),(∀ x∈l,∀ c,f c x=g c x)→dG f w l=dG g w l
 | [],_,_=>rfl
 | c :: w,l,h=>by
  unfold dG
  split
  ·exact aCm l fun x hx=>by rw [h x hx]
  ·split
   ·rw [aOX l [] fun x hx=>h x hx 8]
   ·split
    ·rw [aCm l fun x hx=>h x hx 9]
    ·cases l with
     | nil=>rfl
     | cons k ks=>simp only []; rw [h k List.mem_cons_self,aQO w ks fun x hx=>h x (List.mem_cons_of_mem _ hx)]
theorem aS4 {f g:Int→Tr→Bool} {c k n:Int} {nm mk:List UInt8} {ks:List Tr} (h:∀ x∈ks,∀ c,f c x=g c x) (r:Row):aXM f c (.node k n nm mk ks) r=aXM g c (.node k n nm mk ks) r:=by
 unfold aXM eD
 simp only []
 rw [aQO _ _ h]
theorem bEi:∀ (m m':Nat) (t:Tr) (c:Int),t.w≤m→t.w≤m'→isF m c t=isF m' c t:=by
 intro m
 induction m with
 | zero=>intro m' t c h; have:=aVK t; omega
 | succ m ih =>
  intro m' t c h h'
  have:=aVK t
  obtain ⟨q,rfl⟩:∃ q,m'=q+1:=⟨m' - 1,by omega⟩
  unfold isF
  congr 1
  funext r
  cases t with
  | nil=>rfl
  | node k n nm mk ks =>
   rw [aH] at h h'
   exact aS4 (fun x hx c=>ih q x c (by have:=aB1 hx; omega) (by have:=aB1 hx; omega)) r
def isT (c:Int) (t:Tr):Bool:=isF t.w c t
theorem bEw (c:Int) (t:Tr):isT c t=aTE.any (aXM isT c t):=by
 have:=aVK t
 obtain ⟨q,hq⟩:∃ q,t.w=q+1:=⟨t.w - 1,by omega⟩
 show isF t.w c t=aTE.any (aXM isT c t)
 rw [hq]
 show aTE.any (aXM (isF q) c t)=_
 congr 1
 funext r
 cases t with
 | nil=>rfl
 | node k n nm mk ks =>
  rw [aH] at hq
  exact aS4 (ks:=ks) (fun x hx c=>bEi q x.w x c (by have:=aB1 hx; omega) (Nat.le_refl _)) r
def sel (c k:Int):List Row:=aTE.filter fun r=>decide (r.1=c) && decide (r.2.1=k)
theorem bAt (f:Row→Bool) (c k:Int):∀ l:List Row,(l.any fun r=>decide (r.1=c) && (decide (r.2.1=k) && f r))=(l.filter fun r=>decide (r.1=c) && decide (r.2.1=k)).any f
 | []=>rfl
 | r :: l=>by
  rw [List.any_cons,List.filter_cons,bAt f c k l]
  cases h1:decide (r.1=c) <;> cases h2:decide (r.2.1=k) <;> simp
theorem aWr {c k n:Int} {nm mk:List UInt8} {ks:List Tr}:isT c (.node k n nm mk ks)=(sel c k).any (eD isT n nm mk ks):=by
 rw [bEw]
 exact bAt _ c k aTE
def eG (c:Int):List Int:=(aTE.filter fun r=>decide (r.1=c)).map fun r=>r.2.1
theorem bD6 {c k:Int} (h:k∉eG c):sel c k=[]:=by
 unfold sel
 rw [List.filter_eq_nil_iff]
 intro r hr hx
 simp only [Bool.and_eq_true,decide_eq_true_eq] at hx
 apply h
 unfold eG
 rw [List.mem_map]
 exact ⟨r,List.mem_filter.2 ⟨hr,by simp [hx.1]⟩,hx.2⟩
theorem lM {c k n:Int} {nm mk:List UInt8} {ks:List Tr} (h:k∉eG c):isT c (.node k n nm mk ks)=false:=by
 rw [aWr,bD6 h]; rfl
theorem aSa (c:Int):isT c .nil=false:=by
 rw [bEw]
 exact List.any_eq_false.2 fun r _=>by simp [aXM]
end Go.Proofs.YtjhfgiieicloeaaGreatDoor

/- Shapes, part 2: the document's answer is the table's. -/
namespace Go.Proofs.YtjhfgiieicloeaaGreatDoor
open Go Go.Am Go.Sx

end Go.Proofs.YtjhfgiieicloeaaGreatDoor

/- Shapes, part 3: the program's types and expressions are the table's. -/
namespace Go.Proofs.YtjhfgiieicloeaaGreatDoor
open Go Go.Am Go.Sx

def fP (a b c:Bool) (n:Int) (nm mk:List UInt8):Bool:=(a || decide (nm=[])) && ((b || decide (mk=[])) && (c || decide (n=0)))
theorem dK (a b c:Bool) (k n:Int) (nm mk:List UInt8) (ks:List Tr):Ev (fun K=>bI K (.node k n nm mk ks) a b c) (fP a b c n nm mk):=by
 refine Ev.congr (f:=fun K=>_) ?_ (fun K=>by rw [bI])
 unfold fP
 cases a <;> cases b <;> cases c <;> simp only [iteS] <;> first
  | exact Ev.pure' (by simp)
  | (by_cases h:nm=[] <;> by_cases h':mk=[] <;> simp only [h,h',decide_true,decide_false] <;> exact Ev.pure' (by simp))

def k1S (p:Tr→Bool):List Tr→Bool
 | [x]=>p x
 | _=>false
def k2S (p q:Tr→Bool):List Tr→Bool
 | [x,y]=>p x && q y
 | _=>false
section
variable {is:Int→Tr→Bool}
theorem aBo {a:UInt8} {c:Int} (h1:a≠42) (h2:a≠67) (h3:a≠65) (hc:catS a=c) (l:List Tr):dG is [a] l=k1S (is c) l:=by
 subst hc
 unfold dG
 rw [if_neg h1,if_neg h2,if_neg h3]
 match l with
 | []=>rfl
 | [x]=>simp [dG,k1S]
 | x :: y :: r=>simp [dG,k1S]
theorem vB {a b:UInt8} {c d:Int} (h1:a≠42) (h2:a≠67) (h3:a≠65) (g1:b≠42) (g2:b≠67) (g3:b≠65) (hc:catS a=c) (hd:catS b=d) (l:List Tr):dG is [a,b] l=k2S (is c) (is d) l:=by
 subst hc hd
 unfold dG
 rw [if_neg h1,if_neg h2,if_neg h3]
 match l with
 | []=>rfl
 | [x]=>simp [aBo g1 g2 g3 rfl,k1S,k2S]
 | [x,y]=>simp [aBo g1 g2 g3 rfl,k1S,k2S]
 | x :: y :: z :: r=>simp [aBo g1 g2 g3 rfl,k1S,k2S]
end
theorem aGe (k n:Int) (nm mk:List UInt8) (ks:List Tr):Ev (fun K=>hG K (.node k n nm mk ks)) (decide (ks.length=0)):=by
 refine Ev.congr (f:=fun K=>_) ?_ (fun K=>by rw [hG])
 refine Ev.n (fun h=>Ev.pure' ?_) (fun h=>Ev.step (fun k=>by rw [zG]) (Ev.pure' ?_))
 ·rw [decide_eq_false (by omega)]
 ·rw [decide_eq_true (by omega)]
section
variable {ks:List Tr}
theorem bAP {f:Nat→Tr→Option Bool} {p:Tr→Bool} (h:∀ x∈ks,Ev (fun K=>f K x) (p x)) :
  Ev (fun K=>iteS (!decide (((ks.length:Nat):Int)=1)) (some false) ((aT ks 0).bind fun v6=>((f K v6).bind fun v7=>(iteS (!v7) (some false) (some true))))) (k1S p ks):=by
 match ks,h with
 | [],_=>exact Ev.nT (by simp) Ev.pure
 | [x],h=>exact Ev.nF (by simp) (Ev.opt (a:=x) rfl (Ev.cast (Ev.andN (h x (by simp)) fun _=>Ev.pure) (by simp [k1S])))
 | x :: y :: r,_=>exact Ev.nT (by simp; omega) Ev.pure
theorem aVs {f g:Nat→Tr→Option Bool} {p q:Tr→Bool} (h:∀ x∈ks,Ev (fun K=>f K x) (p x)) (h':∀ x∈ks,Ev (fun K=>g K x) (q x)) :
  Ev (fun K=>iteS (!decide (((ks.length:Nat):Int)=2)) (some false) ((aT ks 0).bind fun v6=>((f K v6).bind fun v7=>(iteS (!v7) (some false) ((aT ks 1).bind fun v8=>((g K v8).bind fun v9=>(iteS (!v9) (some false) (some true)))))))) (k2S p q ks):=by
 match ks,h,h' with
 | [],_,_=>exact Ev.nT (by simp) Ev.pure
 | [x],_,_=>exact Ev.nT (by simp) Ev.pure
 | [x,y],h,h'=>exact Ev.nF (by simp) (Ev.opt (a:=x) rfl (Ev.cast (Ev.andN (h x (by simp)) fun _=>Ev.opt (a:=y) rfl (Ev.andN (h' y (by simp)) fun _=>Ev.pure)) (by simp [k2S])))
 | x :: y :: z :: r,_,_=>exact Ev.nT (by simp; omega) Ev.pure
theorem bFQ {L:Nat→List Tr→Int→Option Bool} {f:Nat→Tr→Option Bool} {p:Tr→Bool}
  (hL:∀ k l i,L (k+1) l i=iteS (decide (i<((l.length:Nat):Int))) ((aT l i).bind fun v8=>((f k v8).bind fun v9=>(iteS (!v9) (some false) (L k l (IntKind.i64.wrap (i+1)))))) (some true))
  (hl:ks.length≤1099511627776) (h:∀ x∈ks,Ev (fun K=>f K x) (p x)):∀ (m i:Nat),ks.length=i+m→Ev (fun K=>L K ks (i:Int)) ((ks.drop i).all p):=by
 intro m
 induction m with
 | zero =>
  intro i hi
  refine Ev.step (fun k=>by rw [hL]) ?_
  refine Ev.dF (by omega) (Ev.pure' ?_)
  rw [List.drop_of_length_le (by omega)]; rfl
 | succ m ihm =>
  intro i hi
  have hlt:i<ks.length:=by omega
  rw [iL hlt,List.all_cons]
  refine Ev.step (fun k=>by rw [hL]) ?_
  refine Ev.dT (by omega) (Ev.opt (dL hlt) (Ev.andN (h _ (List.getElem_mem hlt)) fun _=>?_))
  rw [bZ (by omega)]
  exact ihm (i+1) (by omega)
theorem aOf {L:Nat→List Tr→Int→Option Bool} {f:Nat→Tr→Option Bool} {p:Tr→Bool}
  (hL:∀ k l i,L (k+1) l i=iteS (decide (i<((l.length:Nat):Int))) ((aT l i).bind fun v8=>((f k v8).bind fun v9=>(iteS (!v9) (some false) (L k l (IntKind.i64.wrap (i+1)))))) (some true))
  (hl:ks.length≤1099511627776) (h:∀ x∈ks,Ev (fun K=>f K x) (p x)) {from':Nat} (hf:from'≤ks.length) :
  Ev (fun K=>(jD ks (from':Int) ((ks.length:Nat):Int)).bind fun v6=>L K v6 0) ((ks.drop from').all p):=by
 refine Ev.opt (tO hf (Nat.le_refl _)) ?_
 rw [List.take_length]
 have:=bFQ (ks:=ks.drop from') hL (by simp; omega) (fun x hx=>h x (List.mem_of_mem_drop hx)) (ks.drop from').length 0 (by omega)
 simpa using this
end
theorem dQ {n:Int}:(decide (0≤n) && decide (n≤0))=decide (n=0):=by
 by_cases h:n=0
 ·simp [h]
 ·rw [decide_eq_false h]
  by_cases h':0≤n
  ·rw [decide_eq_false (show ¬ n≤0 by omega),Bool.and_false]
  ·rw [decide_eq_false h',Bool.false_and]
theorem aXR {n:Int}:(decide (0≤n) && decide (n≤1))=(decide (n=0) || decide (n=1)):=by
 by_cases h:n=0
 ·simp [h]
 ·by_cases h1:n=1
  ·simp [h1]
  ·rw [decide_eq_false h,decide_eq_false h1]
   by_cases h':0≤n
   ·rw [decide_eq_false (show ¬ n≤1 by omega),Bool.and_false]; rfl
   ·rw [decide_eq_false h',Bool.false_and]; rfl
theorem bW (s:List UInt8):aM8 s []=decide (s=[]):=rfl
theorem pY (s:List UInt8):aM8 s [110]=jG s:=rfl
theorem aGl (s:List UInt8):aM8 s [108]=lgS s:=rfl

theorem aP {c k n:Int} {nm mk:List UInt8} {ks:List Tr} {r:Row} (h:sel c k=[r]):isT c (.node k n nm mk ks)=eD isT n nm mk ks r:=by
 rw [aWr,h]; simp
theorem aKI {c k n:Int} {nm mk:List UInt8} {ks:List Tr} {r r':Row} (h:sel c k=[r,r']):isT c (.node k n nm mk ks)=(eD isT n nm mk ks r || eD isT n nm mk ks r'):=by
 rw [aWr,h]; simp
theorem bAn {k n:Int} {nm mk:List UInt8} {ks:List Tr}:isT 8 (.node k n nm mk ks)=(decide (k=8) && (fP true false false n nm mk && (jG nm && k1S (isT 1) ks))):=by
 by_cases h:k=8
 ·subst h
  rw [aP (r:=(8,8,[110],[],0,0,[116])) rfl]
  simp only [eD,pY,bW,aBo (a:=116) (c:=1) (by decide) (by decide) (by decide) rfl,fP,← dQ]
  cases jG nm <;> simp [Bool.and_assoc]
 ·rw [lM (by simpa [show eG 8=[8] from rfl] using h),decide_eq_false h]; rfl
theorem bFG {k n:Int} {nm mk:List UInt8} {ks:List Tr}:isT 9 (.node k n nm mk ks)=(decide (k=34) && (fP true true false n nm mk && (jG nm && (jG mk && k1S (isT 2) ks)))):=by
 by_cases h:k=34
 ·subst h
  rw [aP (r:=(9,34,[110],[110],0,0,[101])) rfl]
  simp only [eD,pY,aBo (a:=101) (c:=2) (by decide) (by decide) (by decide) rfl,fP,← dQ]
  cases jG nm <;> cases jG mk <;> simp [Bool.and_assoc]
 ·rw [lM (by simpa [show eG 9=[34] from rfl] using h),decide_eq_false h]; rfl

theorem aV9 {k n:Int} {nm mk:List UInt8} {ks:List Tr} (hl:ks.length≤1099511627776) (hg:∀ x∈ks,Good x)
  (ih:∀ x∈ks,Ev (fun K=>mG K x) (match x with | .nil=>false | .node _ _ _ _ l=>k1S (isT 1) l)) :
  Ev (fun K=>rA K (.node k n nm mk ks)) (rG (isT 8) [] ks && decide (0<ks.length)):=by
 refine Ev.step (fun k=>by rw [rA]) ?_
 have loop:∀ (m i:Nat) (sn:List (List UInt8×Bool)) (seen:List (List UInt8)),ks.length=i+m→(∀ s,(jN sn s).getD false=decide (s∈seen)) →
   Ev (fun K=>pA K (.node k n nm mk ks) ks (i:Int) sn) (rG (isT 8) seen (ks.drop i) && decide (0<ks.length)):=by
  intro m
  induction m with
  | zero =>
   intro i sn seen hi hs
   refine Ev.step (fun k=>by rw [pA]) ?_
   refine Ev.dF (by omega) (Ev.pure' ?_)
   rw [List.drop_of_length_le (by omega)]
   by_cases h:0<ks.length
   ·rw [decide_eq_true h,decide_eq_true (by omega)]; rfl
   ·rw [decide_eq_false h,decide_eq_false (by omega)]; rfl
  | succ m ihm =>
   intro i sn seen hi hs
   have hlt:i<ks.length:=by omega
   rw [iL hlt]
   unfold rG
   have nx:=fun sn seen=>ihm (i+1) sn seen (by omega)
   have e3:=ih _ (List.getElem_mem hlt)
   refine Ev.step (fun k=>by rw [pA]) ?_
   refine Ev.dT (by omega) (Ev.opt (dL hlt) ?_)
   rw [bZ (by omega)]
   have gd:=hg _ (List.getElem_mem hlt)
   generalize ks[i]=x at *
   cases gd with
   | @mk k' n' nm' mk' ks' g1 g2 g3 g4 =>
    rw [bAn]
    simp only [nameOf]
    refine Ev.cast (Ev.andDN fun a1=>Ev.andN (dK ..) fun a2=>Ev.andN (eZ nm') fun a3=>Ev.cast (b:=(!decide (nm'∈seen)) && (k1S (isT 1) ks' && (rG (isT 8) (seen++[nm']) (ks.drop (i+1)) && decide (0<ks.length)))) (Ev.is (v:=_) (fun h=>?_) (fun h=>?_)) rfl) ?_
    ·rw [hs] at h
     exact Ev.pure' (by rw [h]; rfl)
    ·rw [hs] at h
     rw [h]
     refine Ev.cast (Ev.andN e3 fun _=>nx _ (seen++[nm']) fun s=>?_) (by simp)
     rw [aSm]
     by_cases e:s=nm'
     ·rw [if_pos e]; simp [e]
     ·rw [if_neg e,hs]; simp [e]
    ·by_cases hm:nm'∈seen <;> cases decide (k'=8) <;> cases fP true false false n' nm' mk' <;> cases jG nm' <;> cases k1S (isT 1) ks' <;> simp [hm]
 have:=loop ks.length 0 [] [] (by omega) (fun s=>by simp [jN])
 simpa using this

theorem aH3:∀ t:Tr,Good t→Ev (fun K=>eW K t) (isT 1 t)∧Ev (fun K=>mG K t) (match t with | .nil=>false | .node _ _ _ _ l=>k1S (isT 1) l):=Tr.ind
 (fun h=>by cases h)
 fun k n nm mk ks ih h=>by
  cases h with
  | mk h1 h2 h3 h4 =>
   have ty:∀ x∈ks,Ev (fun K=>eW K x) (isT 1 x):=fun x hx=>(ih x hx (h4 x hx)).1
   refine ⟨?_,Ev.step (fun k=>by rw [mG]) (bAP ty)⟩
   have k2:∀ k,Ev (fun K=>tA K (.node k n nm mk ks)) (k2S (isT 1) (isT 1) ks):=fun k=>Ev.step (fun k=>by rw [tA]) (aVs ty ty)
   refine Ev.step (fun k=>by rw [eW]) ?_
   refine Ev.d (fun e=>?_) (fun e1=>Ev.d (fun e=>?_) (fun e2=>Ev.d (fun e=>?_) (fun e3=>Ev.d (fun e=>?_) (fun e4=>Ev.d (fun e=>?_) (fun e5=>Ev.d (fun e=>?_) (fun e6=>Ev.d (fun e=>?_) (fun e7=>Ev.pure' ?_)))))))
   ·subst e
    refine Ev.cast (Ev.andB (dK ..) fun _=>Ev.ret (aGe ..)) ?_
    rw [aP (r:=(1,1,[],[],0,0,[])) rfl]
    simp [eD,bW,dG,fP,← dQ,Bool.and_assoc]
   ·subst e
    refine Ev.cast (Ev.andB (dK ..) fun _=>Ev.ret (aGe ..)) ?_
    rw [aP (r:=(1,2,[],[],0,0,[])) rfl]
    simp [eD,bW,dG,fP,← dQ,Bool.and_assoc]
   ·subst e
    refine Ev.cast (Ev.andB (dK ..) fun _=>Ev.ret (aGe ..)) ?_
    rw [aP (r:=(1,3,[],[],0,0,[])) rfl]
    simp [eD,bW,dG,fP,← dQ,Bool.and_assoc]
   ·subst e
    refine Ev.cast (Ev.andB (dK ..) fun _=>Ev.andB (aBZ nm) fun _=>Ev.ret (aGe ..)) ?_
    rw [aP (r:=(1,4,[108],[],0,0,[])) rfl]
    simp only [eD,bW,aGl,dG,fP,← dQ]
    cases lgS nm <;> simp [Bool.and_assoc]
   ·subst e
    refine Ev.cast (Ev.andB (dK ..) fun _=>Ev.ret (k2 _)) ?_
    rw [aP (r:=(1,5,[],[],0,0,[116,116])) rfl]
    simp [eD,bW,vB (a:=116) (b:=116) (c:=1) (d:=1) (by decide) (by decide) (by decide) (by decide) (by decide) (by decide) rfl rfl,fP,← dQ,Bool.and_assoc]
   ·subst e
    refine Ev.cast (Ev.andB (dK ..) fun _=>Ev.ret (k2 _)) ?_
    rw [aP (r:=(1,6,[],[],0,0,[116,116])) rfl]
    simp [eD,bW,vB (a:=116) (b:=116) (c:=1) (d:=1) (by decide) (by decide) (by decide) (by decide) (by decide) (by decide) rfl rfl,fP,← dQ,Bool.and_assoc]
   ·subst e
    refine Ev.cast (Ev.andB (dK ..) fun _=>Ev.andB (eZ nm) fun _=>Ev.ret (aV9 h3 h4 fun x hx=>(ih x hx (h4 x hx)).2)) ?_
    rw [aP (r:=(1,7,[110],[],0,0,[67])) rfl]
    have e67:dG isT [67] ks=(rG (isT 8) [] ks && decide (0<ks.length)):=rfl
    simp only [eD,bW,pY,e67,fP,← dQ]
    cases jG nm <;> simp [Bool.and_assoc]
   ·rw [lM (by simp [show eG 1=[1,2,3,4,5,6,7] from rfl,e1,e2,e3,e4,e5,e6,e7])]
end Go.Proofs.YtjhfgiieicloeaaGreatDoor

/- Shapes, part 4: the program's expressions are the table's. -/
namespace Go.Proofs.YtjhfgiieicloeaaGreatDoor
open Go Go.Am Go.Sx

def mE (many:Nat):List UInt8:=List.replicate many 101
theorem aEJ:∀ (many:Nat) (l:List Tr),dG isT (mE many) l=(decide (l.length=many) && l.all (isT 2))
 | 0,l=>by
  unfold mE dG
  cases l <;> simp
 | m+1,[]=>by
  rw [mE,List.replicate_succ]
  unfold dG
  simp
 | m+1,k :: ks=>by
  rw [mE,List.replicate_succ]
  unfold dG
  rw [if_neg (by decide),if_neg (by decide),if_neg (by decide)]
  have:=aEJ m ks
  rw [mE] at this
  simp only [this,List.all_cons,List.length_cons,show catS 101=2 from rfl]
  by_cases h:ks.length=m
  ·simp [h]
  ·simp [h]
def hd1:List Tr→Bool
 | []=>false
 | x :: _=>isT 2 x
def hd2:List Tr→Bool
 | x :: y :: _=>isT 2 x && isT 1 y
 | _=>false
theorem bCD (l:List Tr):dG isT [101,65] l=(decide (1<l.length) && ((l.drop 1).all (isT 9) && hd1 l)):=by
 match l with
 | []=>rfl
 | x :: r =>
  unfold dG
  rw [if_neg (by decide),if_neg (by decide),if_neg (by decide)]
  have:dG isT [65] r=(r.all (isT 9) && decide (0<r.length)):=rfl
  simp only [this,show catS 101=2 from rfl,List.drop_succ_cons,List.drop_zero,List.length_cons]
  rw [show decide (1<r.length+1)=decide (0<r.length) by by_cases h:0<r.length <;> simp [h]]
  rw [hd1]
  cases isT 2 x <;> cases r.all (isT 9) <;> simp
theorem bBz (l:List Tr):dG isT [101,116,65] l=(decide (2<l.length) && ((l.drop 2).all (isT 9) && hd2 l)):=by
 match l with
 | []=>rfl
 | [x] =>
  unfold dG
  rw [if_neg (by decide),if_neg (by decide),if_neg (by decide)]
  simp [dG,hd2]
 | x :: y :: r =>
  unfold dG
  rw [if_neg (by decide),if_neg (by decide),if_neg (by decide)]
  simp only []
  unfold dG
  rw [if_neg (by decide),if_neg (by decide),if_neg (by decide)]
  have:dG isT [65] r=(r.all (isT 9) && decide (0<r.length)):=rfl
  simp only [this,show catS 101=2 from rfl,show catS 116=1 from rfl,List.drop_succ_cons,List.drop_zero,List.length_cons]
  rw [show decide (2<r.length+1+1)=decide (0<r.length) by by_cases h:0<r.length <;> simp [h] <;> omega]
  rw [hd2]
  cases isT 2 x <;> cases isT 1 y <;> cases r.all (isT 9) <;> simp

theorem bAO:∀ t:Tr,Good t→Ev (fun K=>fN K t) (isT 2 t)∧Ev (fun K=>sS K t) (isT 9 t)∧(∀ k n nm mk ks,t=.node k n nm mk ks→Ev (fun K=>qT K t) (k1S (isT 2) ks)∧Ev (fun K=>qP K t) (k2S (isT 1) (isT 2) ks)):=Tr.ind
 (fun h=>by cases h)
 fun k n nm mk ks ih h=>by
  cases h with
  | mk h1 h2 h3 h4 =>
   have ty:∀ x∈ks,Ev (fun K=>eW K x) (isT 1 x):=fun x hx=>(aH3 x (h4 x hx)).1
   have ex:∀ x∈ks,Ev (fun K=>fN K x) (isT 2 x):=fun x hx=>(ih x hx (h4 x hx)).1
   have ar:∀ x∈ks,Ev (fun K=>sS K x) (isT 9 x):=fun x hx=>(ih x hx (h4 x hx)).2.1
   have k6:Ev (fun K=>qT K (.node k n nm mk ks)) (k1S (isT 2) ks):=Ev.step (fun k=>by rw [qT]) (bAP ex)
   have k4:Ev (fun K=>qP K (.node k n nm mk ks)) (k2S (isT 1) (isT 2) ks):=Ev.step (fun k=>by rw [qP]) (aVs ty ex)
   refine ⟨?_,?_,fun k' n' nm' mk' ks' e=>by cases e; exact ⟨k6,k4⟩⟩
   ·have k5:∀ k,Ev (fun K=>uE K (.node k n nm mk ks)) (k2S (isT 2) (isT 2) ks):=fun k=>Ev.step (fun k=>by rw [uE]) (aVs ex ex)
    have simple:∀ (k:Int) (many:Nat),Ev (fun K=>kQ K (.node k n nm mk ks) (many:Int)) (fP false false false n nm mk && (decide (ks.length=many) && ks.all (isT 2))):=fun k many=>by
     refine Ev.step (fun k=>by rw [kQ]) ?_
     refine Ev.andB (dK ..) fun _=>?_
     refine Ev.cast (Ev.andD (p:=((ks.length:Nat):Int)=(many:Int)) (b:=ks.all (isT 2)) fun _=>Ev.ret (Ev.step (fun k=>by rw [aE5]) ?_)) ?_
     ·exact aOf (from':=0) (fun k l i=>by rw [uT]) h3 ex (by omega)
     ·by_cases h:ks.length=many
      ·rw [decide_eq_true h,decide_eq_true (by omega)]
      ·rw [decide_eq_false h,decide_eq_false (by omega)]
    have arms:∀ (k:Int) (fr:Nat),Ev (fun K=>aAi K (.node k n nm mk ks) (fr:Int)) (decide (fr<ks.length) && (ks.drop fr).all (isT 9)):=fun k fr=>by
     refine Ev.step (fun k=>by rw [aAi]) ?_
     refine Ev.cast (Ev.andD (p:=(fr:Int)<((ks.length:Nat):Int)) (b:=(ks.drop fr).all (isT 9)) fun _=>Ev.ret (Ev.step (fun k=>by rw [aBs]) ?_)) ?_
     ·exact aOf (from':=fr) (fun k l i=>by rw [qK]) h3 ar (by omega)
     ·by_cases h:fr<ks.length
      ·rw [decide_eq_true h,decide_eq_true (by omega)]
      ·rw [decide_eq_false h,decide_eq_false (by omega)]
    refine Ev.step (fun k=>by rw [fN]) ?_
    refine Ev.d (fun e=>?_) (fun e1=>?_)
    ·subst e
     refine Ev.cast (Ev.andB (dK ..) fun _=>Ev.andD fun _=>Ev.andD fun _=>Ev.ret (aGe ..)) ?_
     rw [aP (r:=(2,20,[],[],IntKind.i64.wrap (0 - 1073741824),1073741824,[])) rfl,show IntKind.i64.wrap (0 - 1073741824)=-1073741824 from rfl]
     simp [eD,bW,dG,fP,Bool.and_assoc]
    refine Ev.d (fun e=>?_) (fun e2=>?_)
    ·subst e
     refine Ev.cast (Ev.andB (b:=(decide (n=0) || decide (n=1)) && decide (ks.length=0)) (dK ..) fun _=>Ev.d (fun h=>Ev.cast (Ev.ret (aGe ..)) (by simp [h])) (fun h=>Ev.d (fun h'=>Ev.cast (Ev.ret (aGe ..)) (by simp [h'])) (fun h'=>Ev.pure' (by simp [h,h'])))) ?_
     rw [aP (r:=(2,21,[],[],0,1,[])) rfl]
     simp only [eD,bW,dG,fP,← aXR]
     simp [Bool.and_assoc]
    refine Ev.d (fun e=>?_) (fun e3=>?_)
    ·subst e
     refine Ev.cast (Ev.ret (simple 22 0)) ?_
     rw [aP (r:=(2,22,[],[],0,0,mE 0)) rfl]
     simp only [eD,bW,aEJ,fP,← dQ]
     simp [Bool.and_assoc]
    refine Ev.d (fun e=>?_) (fun e4=>?_)
    ·subst e
     refine Ev.cast (Ev.andB (dK ..) fun _=>Ev.andB (aBZ nm) fun _=>Ev.ret (aGe ..)) ?_
     rw [aP (r:=(2,23,[108],[],0,0,[])) rfl]
     simp only [eD,bW,aGl,dG,fP,← dQ]
     cases lgS nm <;> simp [Bool.and_assoc]
    refine Ev.d (fun e=>?_) (fun e5=>?_)
    ·subst e
     refine Ev.cast (Ev.andB (dK ..) fun _=>Ev.andB (eZ nm) fun _=>Ev.ret k4) ?_
     rw [aP (r:=(2,24,[110],[],0,0,[116,101])) rfl]
     simp only [eD,bW,pY,vB (a:=116) (b:=101) (c:=1) (d:=2) (by decide) (by decide) (by decide) (by decide) (by decide) (by decide) rfl rfl,fP,← dQ]
     cases jG nm <;> simp [Bool.and_assoc]
    refine Ev.d (fun e=>?_) (fun e6=>?_)
    ·subst e
     refine Ev.cast (Ev.ret (simple 25 2)) ?_
     rw [aP (r:=(2,25,[],[],0,0,mE 2)) rfl]
     simp only [eD,bW,aEJ,fP,← dQ]
     simp [Bool.and_assoc]
    refine Ev.d (fun e=>?_) (fun e7=>?_)
    ·subst e
     refine Ev.cast (Ev.ret (simple 26 2)) ?_
     rw [aP (r:=(2,26,[],[],0,0,mE 2)) rfl]
     simp only [eD,bW,aEJ,fP,← dQ]
     simp [Bool.and_assoc]
    refine Ev.d (fun e=>?_) (fun e8=>?_)
    ·subst e
     refine Ev.cast (Ev.ret (simple 27 1)) ?_
     rw [aP (r:=(2,27,[],[],0,0,mE 1)) rfl]
     simp only [eD,bW,aEJ,fP,← dQ]
     simp [Bool.and_assoc]
    refine Ev.d (fun e=>?_) (fun e9=>?_)
    ·subst e
     refine Ev.cast (Ev.ret (simple 28 1)) ?_
     rw [aP (r:=(2,28,[],[],0,0,mE 1)) rfl]
     simp only [eD,bW,aEJ,fP,← dQ]
     simp [Bool.and_assoc]
    refine Ev.d (fun e=>?_) (fun e10=>?_)
    ·subst e
     refine Ev.cast (Ev.andB (dK ..) fun _=>Ev.andB (eZ nm) fun _=>Ev.ret (k5 _)) ?_
     rw [aP (r:=(2,29,[110],[],0,0,[101,101])) rfl]
     simp only [eD,bW,pY,vB (a:=101) (b:=101) (c:=2) (d:=2) (by decide) (by decide) (by decide) (by decide) (by decide) (by decide) rfl rfl,fP,← dQ]
     cases jG nm <;> simp [Bool.and_assoc]
    refine Ev.d (fun e=>?_) (fun e11=>?_)
    ·subst e
     refine Ev.cast (Ev.ret (simple 30 3)) ?_
     rw [aP (r:=(2,30,[],[],0,0,mE 3)) rfl]
     simp only [eD,bW,aEJ,fP,← dQ]
     simp [Bool.and_assoc]
    refine Ev.d (fun e=>?_) (fun e12=>?_)
    ·subst e
     refine Ev.cast (Ev.andB (dK ..) fun _=>Ev.andD fun _=>Ev.andD fun _=>Ev.ret (k5 _)) ?_
     rw [aP (r:=(2,31,[],[],1,5,[101,101])) rfl]
     simp only [eD,bW,vB (a:=101) (b:=101) (c:=2) (d:=2) (by decide) (by decide) (by decide) (by decide) (by decide) (by decide) rfl rfl,fP]
     simp [Bool.and_assoc]
    refine Ev.d (fun e=>?_) (fun e13=>?_)
    ·subst e
     refine Ev.cast (Ev.andB (dK ..) fun _=>Ev.andB (b:=hd1 ks) (arms 32 1) fun ha=>?_) ?_
     ·match ks,ha,ex with
      | [],ha,_=>simp at ha
      | x :: r,_,ex=>exact Ev.opt (a:=x) rfl (Ev.ret (ex x List.mem_cons_self))
     rw [aP (r:=(2,32,[],[],0,0,[101,65])) rfl]
     simp only [eD,bW,bCD,fP,← dQ]
     simp [Bool.and_assoc]
    refine Ev.d (fun e=>?_) (fun e14=>Ev.pure' ?_)
    ·subst e
     refine Ev.cast (Ev.andB (dK ..) fun _=>Ev.andB (b:=hd2 ks) (arms 33 2) fun ha=>?_) ?_
     ·match ks,ha,ex,ty with
      | [],ha,_,_=>simp at ha
      | [x],ha,_,_=>simp at ha
      | x :: y :: r,_,ex,ty=>exact Ev.opt (a:=x) rfl (Ev.andB (ex x List.mem_cons_self) fun _=>Ev.opt (a:=y) rfl (Ev.ret (ty y (by simp))))
     rw [aP (r:=(2,33,[],[],0,0,[101,116,65])) rfl]
     simp only [eD,bW,bBz,fP,← dQ]
     simp [Bool.and_assoc]
    ·rw [lM (by simp [show eG 2=[20,21,22,23,24,25,26,27,28,29,30,31,32,33] from rfl,e1,e2,e3,e4,e5,e6,e7,e8,e9,e10,e11,e12,e13,e14])]
   ·rw [bFG]
    exact Ev.step (fun k=>by rw [sS]) (Ev.andD fun _=>Ev.andB (dK ..) fun _=>Ev.andB (eZ nm) fun _=>Ev.andB (eZ mk) fun _=>Ev.ret k6)
end Go.Proofs.YtjhfgiieicloeaaGreatDoor

/- Shapes, part 5: the program's signatures, modules, declarations, programs are the table's. -/
namespace Go.Proofs.YtjhfgiieicloeaaGreatDoor
open Go Go.Am Go.Sx

theorem bIN (l:List Tr):dG isT [115,116] l=k2S (isT 4) (isT 1) l:=vB (by decide) (by decide) (by decide) (by decide) (by decide) (by decide) rfl rfl l
theorem bHe (l:List Tr):dG isT [116] l=k1S (isT 1) l:=aBo (by decide) (by decide) (by decide) rfl l
theorem bJS (l:List Tr):dG isT [101] l=k1S (isT 2) l:=aBo (by decide) (by decide) (by decide) rfl l
theorem bJo (l:List Tr):dG isT [109] l=k1S (isT 3) l:=aBo (by decide) (by decide) (by decide) rfl l
theorem bHr (l:List Tr):dG isT [115] l=k1S (isT 4) l:=aBo (by decide) (by decide) (by decide) rfl l
theorem bJh (l:List Tr):dG isT [109,115] l=k2S (isT 3) (isT 4) l:=vB (by decide) (by decide) (by decide) (by decide) (by decide) (by decide) rfl rfl l
theorem bIX (l:List Tr):dG isT [115,109] l=k2S (isT 4) (isT 3) l:=vB (by decide) (by decide) (by decide) (by decide) (by decide) (by decide) rfl rfl l
theorem bJp (l:List Tr):dG isT [116,101] l=k2S (isT 1) (isT 2) l:=vB (by decide) (by decide) (by decide) (by decide) (by decide) (by decide) rfl rfl l
theorem k_C (l:List Tr):dG isT [67] l=(rG (isT 8) [] l && decide (0<l.length)):=rfl
theorem k_0 (l:List Tr):dG isT [] l=decide (l.length=0):=rfl
theorem k_p (l:List Tr):dG isT [42,112] l=l.all (isT 5):=aCm l fun x _=>by simp [aOw,show catS 112=5 from rfl]
theorem k_d (l:List Tr):dG isT [42,100] l=l.all (isT 6):=aCm l fun x _=>by simp [aOw,show catS 100=6 from rfl]
def innerS (t:Tr):Bool:=isT 6 t && aOw 105 t
theorem k_i (l:List Tr):dG isT [42,105] l=l.all innerS:=aCm l fun x _=>by simp [innerS,show catS 105=6 from rfl]

theorem aY9:∀ t:Tr,Good t→Ev (fun K=>lD K t) (isT 4 t)∧Ev (fun K=>uH K t) (isT 5 t)∧(∀ k n nm mk ks,t=.node k n nm mk ks→Ev (fun K=>oJ K t) (k1S (isT 4) ks)):=Tr.ind
 (fun h=>by cases h)
 fun k n nm mk ks ih h=>by
  have h:=h
  have kt:=(aH3 _ h).2
  cases h with
  | mk h1 h2 h3 h4 =>
   have ty:∀ x∈ks,Ev (fun K=>eW K x) (isT 1 x):=fun x hx=>(aH3 x (h4 x hx)).1
   have sg:∀ x∈ks,Ev (fun K=>lD K x) (isT 4 x):=fun x hx=>(ih x hx (h4 x hx)).1
   have sp:∀ x∈ks,Ev (fun K=>uH K x) (isT 5 x):=fun x hx=>(ih x hx (h4 x hx)).2.1
   have co:Ev (fun K=>rA K (.node k n nm mk ks)) (rG (isT 8) [] ks && decide (0<ks.length)):=aV9 h3 h4 fun x hx=>(aH3 x (h4 x hx)).2
   have k9:Ev (fun K=>oJ K (.node k n nm mk ks)) (k1S (isT 4) ks):=Ev.step (fun k=>by rw [oJ]) (bAP sg)
   have k10:Ev (fun K=>uN K (.node k n nm mk ks)) (k2S (isT 4) (isT 1) ks):=Ev.step (fun k=>by rw [uN]) (aVs sg ty)
   have eaS:Ev (fun K=>xI K (.node k n nm mk ks) 0) (ks.all (isT 5)):=by
    refine Ev.step (fun k=>by rw [xI]) ?_
    exact aOf (from':=0) (fun k l i=>by rw [qF]) h3 sp (by omega)
   refine ⟨?_,?_,fun k' n' nm' mk' ks' e=>by cases e; exact k9⟩
   ·refine Ev.step (fun k=>by rw [lD]) ?_
    refine Ev.d (fun e=>?_) (fun e1=>Ev.d (fun e=>?_) (fun e2=>Ev.d (fun e=>?_) (fun e3=>Ev.pure' ?_)))
    ·subst e
     refine Ev.cast (Ev.andB (dK ..) fun _=>Ev.ret eaS) ?_
     rw [aP (r:=(4,50,[],[],0,0,[42,112])) rfl]
     simp only [eD,bW,k_p,fP,← dQ]
     simp [Bool.and_assoc]
    ·subst e
     refine Ev.cast (Ev.andB (dK ..) fun _=>Ev.andB (eZ nm) fun _=>Ev.ret (aGe ..)) ?_
     rw [aP (r:=(4,51,[110],[],0,0,[])) rfl]
     simp only [eD,bW,pY,k_0,fP,← dQ]
     cases jG nm <;> simp [Bool.and_assoc]
    ·subst e
     refine Ev.cast (Ev.andB (dK ..) fun _=>Ev.andB (aBZ nm) fun _=>Ev.ret k10) ?_
     rw [aP (r:=(4,52,[108],[],0,0,[115,116])) rfl]
     simp only [eD,bW,aGl,bIN,fP,← dQ]
     cases lgS nm <;> simp [Bool.and_assoc]
    ·rw [lM (by simp [show eG 4=[50,51,52] from rfl,e1,e2,e3])]
   ·refine Ev.step (fun k=>by rw [uH]) ?_
    refine Ev.d (fun e=>?_) (fun e1=>Ev.d (fun e=>?_) (fun e2=>?_))
    ·subst e
     refine Ev.cast (Ev.andB (dK ..) fun _=>Ev.ret k9) ?_
     rw [aP (r:=(5,64,[],[],0,0,[115])) rfl]
     simp only [eD,bW,bHr,fP,← dQ]
     simp [Bool.and_assoc]
    ·subst e
     refine Ev.cast (Ev.andB (dK ..) fun _=>Ev.andB (aBZ nm) fun _=>Ev.andB (aBZ mk) fun _=>Ev.ret (aGe ..)) ?_
     rw [aP (r:=(5,65,[108],[108],0,0,[])) rfl]
     simp only [eD,aGl,k_0,fP,← dQ]
     cases lgS nm <;> cases lgS mk <;> simp [Bool.and_assoc]
    by_cases e3:k=60
    ·subst e3
     refine Ev.cast (Ev.andN (dK ..) fun _=>Ev.andN (eZ nm) fun _=>Ev.dT rfl (Ev.ret kt)) ?_
     rw [aP (r:=(5,60,[110],[],0,0,[116])) rfl]
     simp only [eD,bW,pY,bHe,fP,← dQ]
     cases jG nm <;> simp [Bool.and_assoc]
    by_cases e4:k=61
    ·subst e4
     refine Ev.cast (Ev.andN (dK ..) fun _=>Ev.andN (eZ nm) fun _=>Ev.dF (by decide) (Ev.dT rfl (Ev.orB (aGe ..) (Ev.ret kt)))) ?_
     rw [aKI (r:=(5,61,[110],[],0,0,[116])) (r':=(5,61,[110],[],0,0,[])) rfl]
     simp only [eD,bW,pY,bHe,k_0,fP,← dQ]
     cases jG nm <;> cases decide (mk=[]) <;> cases decide (0≤n) <;> cases decide (n≤0) <;> cases k1S (isT 1) ks <;> simp
    by_cases e5:k=62
    ·subst e5
     refine Ev.cast (Ev.andN (dK ..) fun _=>Ev.andN (eZ nm) fun _=>Ev.dF (by decide) (Ev.dF (by decide) (Ev.dT rfl (Ev.ret co)))) ?_
     rw [aP (r:=(5,62,[110],[],0,0,[67])) rfl]
     simp only [eD,bW,pY,k_C,fP,← dQ]
     cases jG nm <;> simp [Bool.and_assoc]
    by_cases e6:k=63
    ·subst e6
     refine Ev.cast (Ev.andN (dK ..) fun _=>Ev.andN (eZ nm) fun _=>Ev.dF (by decide) (Ev.dF (by decide) (Ev.dF (by decide) (Ev.dT rfl (Ev.ret k9))))) ?_
     rw [aP (r:=(5,63,[110],[],0,0,[115])) rfl]
     simp only [eD,bW,pY,bHr,fP,← dQ]
     cases jG nm <;> simp [Bool.and_assoc]
    refine Ev.cast (Ev.andN (dK ..) fun _=>Ev.andN (eZ nm) fun _=>Ev.dF e3 (Ev.dF e4 (Ev.dF e5 (Ev.dF e6 Ev.pure)))) ?_
    rw [lM (by simp [show eG 5=[60,61,61,62,63,64,65] from rfl,e1,e2,e3,e4,e5,e6])]
    simp

theorem bDI:∀ t:Tr,Good t→Ev (fun K=>oN K t) (isT 3 t)∧Ev (fun K=>oW K t) (innerS t):=Tr.ind
 (fun h=>by cases h)
 fun k n nm mk ks ih h=>by
  have h:=h
  have kt:=(aH3 _ h).2
  have ke:=(bAO _ h).2.2 _ _ _ _ _ rfl
  cases h with
  | mk h1 h2 h3 h4 =>
   have md:∀ x∈ks,Ev (fun K=>oN K x) (isT 3 x):=fun x hx=>(ih x hx (h4 x hx)).1
   have rR:∀ x∈ks,Ev (fun K=>oW K x) (innerS x):=fun x hx=>(ih x hx (h4 x hx)).2
   have sg:∀ x∈ks,Ev (fun K=>lD K x) (isT 4 x):=fun x hx=>(aY9 x (h4 x hx)).1
   have co:Ev (fun K=>rA K (.node k n nm mk ks)) (rG (isT 8) [] ks && decide (0<ks.length)):=aV9 h3 h4 fun x hx=>(aH3 x (h4 x hx)).2
   have k7:Ev (fun K=>tG K (.node k n nm mk ks)) (k1S (isT 3) ks):=Ev.step (fun k=>by rw [tG]) (bAP md)
   have k8:Ev (fun K=>sV K (.node k n nm mk ks)) (k2S (isT 3) (isT 4) ks):=Ev.step (fun k=>by rw [sV]) (aVs md sg)
   have eaS:Ev (fun K=>wW K (.node k n nm mk ks) 0) (ks.all innerS):=by
    refine Ev.step (fun k=>by rw [wW]) ?_
    exact aOf (from':=0) (fun k l i=>by rw [qG]) h3 rR (by omega)
   refine ⟨?_,?_⟩
   ·refine Ev.step (fun k=>by rw [oN]) ?_
    refine Ev.d (fun e=>?_) (fun e1=>Ev.d (fun e=>?_) (fun e2=>Ev.d (fun e=>?_) (fun e3=>Ev.d (fun e=>?_) (fun e4=>Ev.pure' ?_))))
    ·subst e
     refine Ev.cast (Ev.andB (dK ..) fun _=>Ev.ret eaS) ?_
     rw [aP (r:=(3,40,[],[],0,0,[42,105])) rfl]
     simp only [eD,bW,k_i,fP,← dQ]
     simp [Bool.and_assoc]
    ·subst e
     refine Ev.cast (Ev.andB (dK ..) fun _=>Ev.andB (aBZ nm) fun _=>Ev.ret (aGe ..)) ?_
     rw [aP (r:=(3,41,[108],[],0,0,[])) rfl]
     simp only [eD,bW,aGl,k_0,fP,← dQ]
     cases lgS nm <;> simp [Bool.and_assoc]
    ·subst e
     refine Ev.cast (Ev.andB (dK ..) fun _=>Ev.andB (eZ nm) fun _=>Ev.ret k7) ?_
     rw [aP (r:=(3,42,[110],[],0,0,[109])) rfl]
     simp only [eD,bW,pY,bJo,fP,← dQ]
     cases jG nm <;> simp [Bool.and_assoc]
    ·subst e
     refine Ev.cast (Ev.andB (b:=(decide (n=0) || decide (n=1)) && k2S (isT 3) (isT 4) ks) (dK ..) fun _=>Ev.d (fun h=>Ev.cast (Ev.ret k8) (by simp [h])) (fun h=>Ev.d (fun h'=>Ev.cast (Ev.ret k8) (by simp [h'])) (fun h'=>Ev.pure' (by simp [h,h'])))) ?_
     rw [aP (r:=(3,43,[],[],0,1,[109,115])) rfl]
     simp only [eD,bW,bJh,fP,← aXR]
     simp [Bool.and_assoc]
    ·rw [lM (by simp [show eG 3=[40,41,42,43] from rfl,e1,e2,e3,e4])]
   ·refine Ev.step (fun k=>by rw [oW]) ?_
    unfold innerS
    by_cases e1:k=76
    ·subst e1
     refine Ev.cast (Ev.andN (dK ..) fun _=>Ev.dT rfl (Ev.andB (aBZ nm) fun _=>Ev.ret (aGe ..))) ?_
     rw [aP (r:=(6,76,[108],[],0,0,[])) rfl,show aOw 105 (.node 76 n nm mk ks)=true from rfl]
     simp only [eD,bW,aGl,k_0,fP,← dQ]
     cases lgS nm <;> simp [Bool.and_assoc]
    by_cases e2:k=77
    ·subst e2
     refine Ev.cast (Ev.andN (dK ..) fun _=>Ev.dF (by decide) (Ev.dT rfl (Ev.andB (aBZ nm) fun _=>Ev.ret (aGe ..)))) ?_
     rw [aP (r:=(6,77,[108],[],0,0,[])) rfl,show aOw 105 (.node 77 n nm mk ks)=true from rfl]
     simp only [eD,bW,aGl,k_0,fP,← dQ]
     cases lgS nm <;> simp [Bool.and_assoc]
    by_cases e3:k=70
    ·subst e3
     have c0:Ev (fun K=>dN K (.node 70 n nm mk ks)) (jG nm && (k1S (isT 2) ks || k2S (isT 1) (isT 2) ks)):=by
      refine Ev.step (fun k=>by rw [dN]) ?_
      exact Ev.andN (eZ nm) fun _=>Ev.dT rfl (Ev.orB ke.1 (Ev.ret ke.2))
     refine Ev.cast (Ev.andN (dK ..) fun _=>Ev.dF (by decide) (Ev.dF (by decide) c0)) ?_
     rw [aKI (r:=(6,70,[110],[],0,0,[101])) (r':=(6,70,[110],[],0,0,[116,101])) rfl,show aOw 105 (.node 70 n nm mk ks)=true from rfl]
     simp only [eD,bW,pY,bJS,bJp,fP,← dQ]
     cases jG nm <;> cases decide (mk=[]) <;> cases decide (0≤n) <;> cases decide (n≤0) <;> cases k1S (isT 2) ks <;> simp
    by_cases e4:k=71
    ·subst e4
     have c0:Ev (fun K=>dN K (.node 71 n nm mk ks)) (jG nm && (k1S (isT 1) ks)):=by
      refine Ev.step (fun k=>by rw [dN]) ?_
      exact Ev.andN (eZ nm) fun _=>Ev.dF (by decide) (Ev.dT rfl (Ev.ret kt))
     refine Ev.cast (Ev.andN (dK ..) fun _=>Ev.dF (by decide) (Ev.dF (by decide) c0)) ?_
     rw [aP (r:=(6,71,[110],[],0,0,[116])) rfl,show aOw 105 (.node 71 n nm mk ks)=true from rfl]
     simp only [eD,bW,pY,bHe,fP,← dQ]
     cases jG nm <;> simp [Bool.and_assoc]
    by_cases e5:k=72
    ·subst e5
     have c0:Ev (fun K=>dN K (.node 72 n nm mk ks)) (jG nm && (rG (isT 8) [] ks && decide (0<ks.length))):=by
      refine Ev.step (fun k=>by rw [dN]) ?_
      exact Ev.andN (eZ nm) fun _=>Ev.dF (by decide) (Ev.dF (by decide) (Ev.dT rfl (Ev.ret co)))
     refine Ev.cast (Ev.andN (dK ..) fun _=>Ev.dF (by decide) (Ev.dF (by decide) c0)) ?_
     rw [aP (r:=(6,72,[110],[],0,0,[67])) rfl,show aOw 105 (.node 72 n nm mk ks)=true from rfl]
     simp only [eD,bW,pY,k_C,fP,← dQ]
     cases jG nm <;> simp [Bool.and_assoc]
    by_cases e6:k=73
    ·subst e6
     have c0:Ev (fun K=>dN K (.node 73 n nm mk ks)) (jG nm && (k1S (isT 3) ks)):=by
      refine Ev.step (fun k=>by rw [dN]) ?_
      exact Ev.andN (eZ nm) fun _=>Ev.dF (by decide) (Ev.dF (by decide) (Ev.dF (by decide) (Ev.dT rfl (Ev.ret k7))))
     refine Ev.cast (Ev.andN (dK ..) fun _=>Ev.dF (by decide) (Ev.dF (by decide) c0)) ?_
     rw [aP (r:=(6,73,[110],[],0,0,[109])) rfl,show aOw 105 (.node 73 n nm mk ks)=true from rfl]
     simp only [eD,bW,pY,bJo,fP,← dQ]
     cases jG nm <;> simp [Bool.and_assoc]
    have c0:Ev (fun K=>dN K (.node k n nm mk ks)) (jG nm && (false)):=by
     refine Ev.step (fun k=>by rw [dN]) ?_
     exact Ev.andN (eZ nm) fun _=>Ev.dF e3 (Ev.dF e4 (Ev.dF e5 (Ev.dF e6 Ev.pure)))
    refine Ev.cast (Ev.andN (dK ..) fun _=>Ev.dF e1 (Ev.dF e2 c0)) ?_
    by_cases e7:k=74
    ·subst e7; simp [aOw,kindOf]
    by_cases e8:k=75
    ·subst e8; simp [aOw,kindOf]
    rw [lM (by simp [show eG 6=[70,70,71,72,73,74,75,76,77] from rfl,e1,e2,e3,e4,e5,e6,e7,e8])]
    simp

theorem bFg (t:Tr) (h:Good t):Ev (fun K=>aBj K t) (isT 6 t):=by
 have rR:=(bDI _ h).2
 cases h with
 | @mk k n nm mk ks h1 h2 h3 h4 =>
  have k9:=(aY9 _ (Good.mk h1 h2 h3 h4 (k:=k) (n:=n))).2.2 _ _ _ _ _ rfl
  have md:∀ x∈ks,Ev (fun K=>oN K x) (isT 3 x):=fun x hx=>(bDI x (h4 x hx)).1
  have sg:∀ x∈ks,Ev (fun K=>lD K x) (isT 4 x):=fun x hx=>(aY9 x (h4 x hx)).1
  have k11:Ev (fun K=>zN K (.node k n nm mk ks)) (k2S (isT 4) (isT 3) ks):=Ev.congr (f:=fun K=>_) (aVs sg md) (fun k=>by rw [zN])
  refine Ev.congr (f:=fun K=>_) ?_ (fun k=>by rw [aBj])
  refine Ev.d (fun e=>?_) (fun e1=>Ev.d (fun e=>?_) (fun e2=>?_))
  ·subst e
   refine Ev.cast (Ev.andB (dK ..) fun _=>Ev.andB (eZ nm) fun _=>Ev.ret k9) ?_
   rw [aP (r:=(6,74,[110],[],0,0,[115])) rfl]
   simp only [eD,bW,pY,bHr,fP,← dQ]
   cases jG nm <;> simp [Bool.and_assoc]
  ·subst e
   refine Ev.cast (Ev.andB (dK ..) fun _=>Ev.andB (eZ nm) fun _=>Ev.andB (eZ mk) fun _=>Ev.ret k11) ?_
   rw [aP (r:=(6,75,[110],[110],0,0,[115,109])) rfl]
   simp only [eD,pY,bIX,fP,← dQ]
   cases jG nm <;> cases jG mk <;> simp [Bool.and_assoc]
  ·refine Ev.cast (Ev.ret rR) ?_
   simp [innerS,aOw,kindOf,e1,e2]
theorem bFd (t:Tr) (h:Good t):Ev (fun K=>xN K t) (isT 7 t):=by
 cases h with
 | @mk k n nm mk ks h1 h2 h3 h4 =>
  refine Ev.congr (f:=fun K=>_) ?_ (fun k=>by rw [xN])
  refine Ev.d (fun e=>?_) (fun e1=>Ev.pure' ?_)
  ·subst e
   have ea:Ev (fun K=>aBx K (.node 80 n nm mk ks) 0) (ks.all (isT 6)):=by
    refine Ev.congr (f:=fun K=>_) ?_ (fun k=>by rw [aBx])
    exact aOf (from':=0) (fun k l i=>by rw [qJ]) h3 (fun x hx=>bFg x (h4 x hx)) (by omega)
   refine Ev.cast (Ev.andB (dK ..) fun _=>Ev.ret ea) ?_
   rw [aP (r:=(7,80,[],[],0,0,[42,100])) rfl]
   simp only [eD,bW,k_d,fP,← dQ]
   simp [Bool.and_assoc]
  ·rw [lM (by simp [show eG 7=[80] from rfl,e1])]
end Go.Proofs.YtjhfgiieicloeaaGreatDoor

/- Shapes, part 5b: a look at a tree as a type, by both; opened trees. -/
namespace Go.Proofs.YtjhfgiieicloeaaGreatDoor
open Go Go.Am Go.Sx

theorem aPQ:∀ t:Tr,Good t→sH t=true:=Tr.ind (fun h=>by cases h) fun k n nm mk ks ih h=>by
 cases h with
 | mk h1 h2 h3 h4=>rw [aFU,aHU]; exact fun x hx=>ih x hx (h4 x hx)
def aUN (t:Tr):Prop:=t.w≤1099511627776∧(sH t=true→Good t)
def chk (c:Int) (t:Tr):Int:=if (aJc t).2=0 then (if 60<qC t then 7 else if isT c t=true then 0 else 16) else (aJc t).2
theorem aQF {t:Tr} (h:(aJc t).2=0):sH t=true:=by
 unfold aJc at h
 by_cases hf:sH t=true
 ·exact hf
 ·rw [if_neg hf] at h; cases h
theorem aZO {f:Nat→Tr→Option Bool} {c:Int} {t:Tr} (h:aUN t) (hf:Good t→Ev (fun K=>f K t) (isT c t)) :
  Ev (fun K=>(wT K t).bind fun (_,v2)=>iteS (!decide (v2=0)) (some v2) ((lS K t).bind fun v3=>iteS (decide (60<v3)) (some (7:Int)) ((f K t).bind fun v4=>iteS (!v4) (some 16) (some 0)))) (chk c t):=by
 unfold chk
 have hp:=bEI t h.1
 have key:(aJc t).2=0→sH t=true:=aQF
 generalize aJc t=q at *
 obtain ⟨a,e⟩:=q
 refine Ev.bind hp ?_
 refine Ev.n (fun h0=>Ev.pure' ?_) (fun h0=>?_)
 ·rw [if_neg h0]
 ·rw [if_pos h0]
  refine Ev.bind (bAH t h.1) (Ev.d (fun h1=>Ev.pure' ?_) (fun h1=>?_))
  ·rw [if_pos (by omega)]
  ·rw [if_neg (by omega)]
   refine Ev.bind (hf (h.2 (key h0))) ?_
   cases isT c t
   ·exact Ev.isT rfl Ev.pure
   ·exact Ev.isF rfl Ev.pure
section
variable {t:Tr} (h:aUN t)
include h
theorem bAE:Ev (fun K=>aIv K t) (chk 1 t):=Ev.congr (f:=fun _K=>_) (Ev.ret (Ev.congr (f:=fun _K=>_) (aZO (f:=eW) h fun g=>(aH3 t g).1) (fun _=>rfl))) (fun _=>rfl)
end

theorem aP6 {c:Int} {t:Tr} (h1:sH t=true) (h2:mV t≤8192) (h3:qC t≤60):chk c t=if isT c t=true then 0 else 16:=by
 have e:aJc t=(qD t 0,0):=by unfold aJc; rw [if_pos h1,if_neg (by omega)]
 unfold chk
 rw [e,if_pos rfl,if_neg (by omega)]
theorem aZp {p:List Cell} (hv:aUd p p.length) (hb:∀ c∈p,c.2.2.1.length≤1099511627776∧c.2.2.2.1.length≤1099511627776∧c.2.2.2.2.length≤1099511627776):∀ n i:Nat,i<n→i<p.length→Good ((iI p).getD i .nil):=by
 intro n
 induction n with
 | zero=>intro i h; omega
 | succ n ih =>
  intro i hi hl
  rw [aP8 hl]
  obtain ⟨b1,b2,b3⟩:=hb _ (List.getElem_mem hl)
  refine .mk b1 b2 (by simpa using b3) fun x hx=>?_
  obtain ⟨k,hk,rfl⟩:=List.mem_map.1 hx
  have:=hv i hl hl k hk
  rw [aGo (by omega) (by omega)]
  exact ih _ (by omega) (by omega)
end Go.Proofs.YtjhfgiieicloeaaGreatDoor

/- Texts in signs; lists of one or two kids. -/
namespace Go.Proofs.YtjhfgiieicloeaaGreatDoor
open Go Go.Am Go.Sx
def par (b:Bool) (s:List UInt8):List UInt8:=if b=true then [40,32]++s++[32,41] else s
theorem uB (b:Bool) (s:List UInt8):(par b s).length≤s.length+4:=by
 unfold par; split <;> simp
theorem lF {s:List UInt8} (h:jG s=true):s.length≤32:=by
 unfold jG nmS at h
 simp only [Bool.and_eq_true,decide_eq_true_eq] at h
 exact h.1.2.1
theorem aH1 {s:List UInt8} (h:lgS s=true):s.length≤128:=by
 unfold lgS at h
 simp only [Bool.and_eq_true,decide_eq_true_eq] at h
 exact h.1
theorem aKv {p q:Tr→Bool} {l:List Tr} (h:k2S p q l=true):∃ x y,l=[x,y]∧p x=true∧q y=true:=by
 match l,h with
 | [x,y],h=>exact ⟨x,y,rfl,by simpa [k2S] using h⟩
theorem aSj {p:Tr→Bool} {l:List Tr} (h:k1S p l=true):∃ x,l=[x]∧p x=true:=by
 match l,h with
 | [x],h=>exact ⟨x,rfl,by simpa [k1S] using h⟩
theorem aC0 {c:Int} {t:Tr} (h:isT c t=true):∃ k n nm mk ks,t=.node k n nm mk ks:=by
 cases t with
 | nil=>rw [aSa] at h; cases h
 | node k n nm mk ks=>exact ⟨k,n,nm,mk,ks,rfl⟩
theorem bGv {k n:Int} {nm mk:List UInt8} {ks:List Tr} (h:isT 1 (.node k n nm mk ks)=true):k=1∨k=2∨k=3∨k=4∨k=5∨k=6∨k=7:=by
 by_cases e:k∈eG 1
 ·simpa [show eG 1=[1,2,3,4,5,6,7] from rfl] using e
 ·rw [lM e] at h; cases h
end Go.Proofs.YtjhfgiieicloeaaGreatDoor

/- A tree is the same as itself, the program says. -/
namespace Go.Proofs.YtjhfgiieicloeaaGreatDoor
open Go Go.Am Go.Sx
theorem aZe {p:List Tr} (hl:p.length≤1099511627776) (ih:∀ x∈p,Ev (fun K=>tH K x x) true):∀ (m i:Nat),p.length=i+m→Ev (fun K=>gR K p p (i:Int)) true:=by
 intro m
 induction m with
 | zero =>
  intro i hi
  exact Ev.step (fun k=>by rw [gR]) (Ev.dF (by omega) Ev.pure)
 | succ m ihm =>
  intro i hi
  have hlt:i<p.length:=by omega
  refine Ev.step (fun k=>by rw [gR]) ?_
  refine Ev.dT (by omega) ?_
  refine Ev.opt (dL hlt) ?_
  refine Ev.opt (dL hlt) ?_
  refine Ev.bind (ih _ (List.getElem_mem hlt)) ?_
  refine Ev.isF rfl ?_
  rw [bZ (by omega)]
  exact ihm (i+1) (by omega)
theorem bDX:∀ t:Tr,t.w≤1048576→Ev (fun K=>tH K t t) true:=Tr.ind
 (fun _=>Ev.step (fun k=>by rw [tH]) Ev.pure)
 fun k n nm mk ks ih h=>by
  rw [aH] at h
  have hl:=aGJ ks
  refine Ev.step (fun k=>by rw [tH]) ?_
  refine Ev.dT rfl ?_
  refine Ev.dT rfl ?_
  refine Ev.dT rfl ?_
  refine Ev.dT rfl ?_
  refine Ev.bind (a:=true) ?_ Ev.pure
  refine Ev.step (fun k=>by rw [rZ]) ?_
  refine Ev.nF rfl ?_
  exact aZe (by omega) (fun x hx=>ih x hx (by have:=aB1 hx; omega)) ks.length 0 (by omega)
end Go.Proofs.YtjhfgiieicloeaaGreatDoor

