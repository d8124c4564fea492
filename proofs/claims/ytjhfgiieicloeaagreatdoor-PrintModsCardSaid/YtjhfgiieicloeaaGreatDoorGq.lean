/- Joined texts: A1, A2, A3, A4, A9, S1, S2, S3, S4, S5, S5b, Pr0, E0. -/
import Derived.Test.YtjhfgiieicloeaaGreatDoorGp
import Derived.Test.YtjhfgiieicloeaaGreatDoorGf
/- Plain facts of trees, part 1: size, depth. -/
namespace Go.Proofs.YtjhfgiieicloeaaGreatDoor
open Go Go.Am Go.Sx
def kindOf:Tr→Int
 | .nil=>0
 | .node k _ _ _ _=>k
def oD:Tr→Nat
 | .nil=>0
 | .node _ _ _ _ ks=>1+go ks
where go:List Tr→Nat
 | []=>0
 | k :: ks=>oD k+go ks
abbrev aJA (l:List Tr):Nat:=oD.go l
theorem aLY:aJA []=0:=by simp [oD.go]
theorem aFV (k:Tr) (ks:List Tr):aJA (k :: ks)=oD k+aJA ks:=by simp [oD.go]
theorem aQk:oD .nil=0:=by simp [oD]
theorem aCI {k n nm mk ks}:oD (Tr.node k n nm mk ks)=1+aJA ks:=by simp [oD]
theorem aTk:∀ {l:List Tr},(∀ x∈l,oD x≤x.w)→aJA l≤wL l
 | [],_=>by simp [aLY,aK]
 | k :: l,h=>by
  rw [aFV,aD]
  have:=h k List.mem_cons_self
  have:=aTk (l:=l) fun x hx=>h x (List.mem_cons_of_mem _ hx)
  omega
theorem aPV:∀ {l:List Tr} {x:Tr},x∈l→oD x≤aJA l
 | k :: l,x,hx=>by
  rw [aFV]
  rcases List.mem_cons.1 hx with rfl | hx
  ·omega
  ·have:=aPV hx; omega
theorem aX1:∀ t:Tr,oD t≤t.w:=Tr.ind (by simp [aQk]) fun k n nm mk ks ih=>by
 rw [aCI,aJ]; have:=aTk ih; omega
def rP:Tr→Nat
 | .nil=>0
 | .node _ _ _ _ ks=>go ks 0+1
where go:List Tr→Nat→Nat
 | [],d=>d
 | k :: ks,d=>go ks (max d (rP k))
abbrev aRe (l:List Tr) (d:Nat):Nat:=rP.go l d
theorem aQJ (d:Nat):aRe [] d=d:=by simp [rP.go]
theorem aIy (k:Tr) (ks:List Tr) (d:Nat):aRe (k :: ks) d=aRe ks (max d (rP k)):=by simp [rP.go]
theorem aV5:rP .nil=0:=by simp [rP]
theorem aIl {k n nm mk ks}:rP (Tr.node k n nm mk ks)=aRe ks 0+1:=by simp [rP]
theorem aXO:∀ {l:List Tr} (d:Nat),(∀ x∈l,rP x≤x.w)→aRe l d≤d+wL l
 | [],d,_=>by simp [aQJ,aK]
 | k :: l,d,h=>by
  rw [aIy,aD]
  have:=h k List.mem_cons_self
  have:=aXO (l:=l) (max d (rP k)) fun x hx=>h x (List.mem_cons_of_mem _ hx)
  omega
theorem aZd:∀ {l:List Tr} {d:Nat},d≤aRe l d
 | [],d=>by rw [aQJ]; omega
 | y :: l,d=>by rw [aIy]; have:=aZd (l:=l) (d:=max d (rP y)); omega
theorem aPZ:∀ {l:List Tr} {x:Tr} {d:Nat},x∈l→rP x≤aRe l d
 | y :: l,x,d,h=>by
  rw [aIy]
  rcases List.mem_cons.1 h with rfl | hx
  ·have:=aZd (l:=l) (d:=max d (rP x)); omega
  ·exact aPZ hx
theorem bDo:∀ t:Tr,rP t≤t.w:=Tr.ind (by simp [aV5]) fun k n nm mk ks ih=>by
 rw [aIl,aJ]; have:=aXO 0 ih; omega
theorem aS1 {k n nm mk ks} (h:(Tr.node k n nm mk ks).w≤1099511627776):wL ks≤1099511627776∧ks.length≤1099511627776:=by
 rw [aJ] at h
 have:=aIW ks
 omega
theorem aXE {ks:List Tr} (hl:ks.length≤1099511627776) (ih:∀ x∈ks,Ev (fun K=>rF K x) (oD x:Int)):∀ (m i s:Nat),ks.length=i+m→s+aJA (ks.drop i)≤2 * 1099511627776 →
  Ev (fun K=>oU K (s:Int) ks (i:Int)) ((s+aJA (ks.drop i):Nat):Int):=by
 intro m
 induction m with
 | zero =>
  intro i s hi hs
  refine Ev.step (fun k=>by rw [oU]) ?_
  refine Ev.dF (by omega) (Ev.pure' ?_)
  rw [List.drop_of_length_le (by omega),aLY]; rfl
 | succ m ihm =>
  intro i s hi hs
  have hlt:i<ks.length:=by omega
  rw [iP hlt,aFV] at hs ⊢
  refine Ev.step (fun k=>by rw [oU]) ?_
  refine Ev.dT (by omega) (Ev.opt (dX hlt) (Ev.bind (ih _ (List.getElem_mem hlt)) ?_))
  rw [cX (by omega),nC (by omega) (by omega)]
  have:=ihm (i+1) (s+oD ks[i]) (by omega) (by omega)
  rw [Int.natCast_add] at this
  rw [show s+(oD ks[i]+aJA (ks.drop (i+1)))=s+oD ks[i]+aJA (ks.drop (i+1)) by omega]
  exact this
theorem bFC:∀ t:Tr,t.w≤1099511627776→Ev (fun K=>rF K t) (oD t:Int):=Tr.ind
 (fun _=>Ev.step (fun k=>by rw [rF]) (Ev.pure' (by simp [aQk])))
 fun k n nm mk ks ih h=>by
  obtain ⟨h1,h2⟩:=aS1 h
  refine Ev.step (fun k=>by rw [rF]) ?_
  have:=aXE h2 (fun x hx=>ih x hx (by have:=aBK hx; omega)) ks.length 0 1 (by omega) (by
   have:=aTk (l:=ks) fun x _=>aX1 x
   simp only [List.drop_zero]; omega)
  rw [aCI]
  simpa using this
theorem aWU {ks:List Tr} (hl:ks.length≤1099511627776) (ih:∀ x∈ks,Ev (fun K=>jU K x) (rP x:Int)):∀ (m i d:Nat),ks.length=i+m→d+wL (ks.drop i)≤2 * 1099511627776 →
  Ev (fun K=>oN K (d:Int) ks (i:Int)) ((aRe (ks.drop i) d+1:Nat):Int):=by
 intro m
 induction m with
 | zero =>
  intro i d hi hs
  refine Ev.step (fun k=>by rw [oN]) ?_
  refine Ev.dF (by omega) (Ev.pure' ?_)
  rw [List.drop_of_length_le (by omega),aQJ,cX (by omega)]
 | succ m ihm =>
  intro i d hi hs
  have hlt:i<ks.length:=by omega
  rw [iP hlt,aD] at hs
  rw [iP hlt,aIy]
  refine Ev.step (fun k=>by rw [oN]) ?_
  refine Ev.dT (by omega) (Ev.opt (dX hlt) (Ev.bind (ih _ (List.getElem_mem hlt)) ?_))
  have hd:=bDo ks[i]
  rw [cX (by omega),show (if (d:Int)<(rP ks[i]:Int) then (rP ks[i]:Int) else (d:Int))=((max d (rP ks[i]):Nat):Int) by split <;> omega]
  exact ihm (i+1) _ (by omega) (by omega)
theorem bFk:∀ t:Tr,t.w≤1099511627776→Ev (fun K=>jU K t) (rP t:Int):=Tr.ind
 (fun _=>Ev.step (fun k=>by rw [jU]) (Ev.pure' (by simp [aV5])))
 fun k n nm mk ks ih h=>by
  obtain ⟨h1,h2⟩:=aS1 h
  refine Ev.step (fun k=>by rw [jU]) ?_
  have:=aWU h2 (fun x hx=>ih x hx (by have:=aBK hx; omega)) ks.length 0 0 (by omega) (by simp only [List.drop_zero]; omega)
  rw [aIl]
  simpa using this
open Classical in
noncomputable def eqB {α:Type} (a b:α):Bool:=decide (a=b)
theorem bGs {α:Type} {a b:α} (h:a=b):eqB a b=true:=by simp [eqB,h]
theorem bF8 {α:Type} {a b:α} (h:a≠b):eqB a b=false:=by simp [eqB,h]
end Go.Proofs.YtjhfgiieicloeaaGreatDoor

/- Plain facts of trees, part 2: few cells, no nil, packing. -/
namespace Go.Proofs.YtjhfgiieicloeaaGreatDoor
open Go Go.Am Go.Sx
def bDk (c:Cell):Cell:=⟨c.1,c.2.1,c.2.2.1.take 130,c.2.2.2.1.take 130,c.2.2.2.2.take 12⟩
def sM:Tr→Bool
 | .nil=>false
 | .node _ _ _ _ ks=>go ks
where go:List Tr→Bool
 | []=>true
 | k :: ks=>sM k && go ks
abbrev aUk (l:List Tr):Bool:=sM.go l
theorem aWb:aUk []=true:=by simp [sM.go]
theorem aTP (k:Tr) (ks:List Tr):aUk (k :: ks)=(sM k && aUk ks):=by simp [sM.go]
theorem aLP:sM .nil=false:=by simp [sM]
theorem aFc {k n nm mk ks}:sM (Tr.node k n nm mk ks)=aUk ks:=by simp [sM]
theorem aHS:∀ {l:List Tr},aUk l=true↔∀ x∈l,sM x=true
 | []=>by simp [aWb]
 | k :: l=>by rw [aTP,Bool.and_eq_true,aHS]; simp
theorem aT3 {p:List Tr} (hl:p.length≤1099511627776) (ih:∀ x∈p,Ev (fun K=>qN K x) (sM x)):∀ (m i:Nat),p.length=i+m →
  ∃ r:Int,Ev (fun K=>eR K p (i:Int)) r∧decide (0≤r)=!aUk (p.drop i):=by
 intro m
 induction m with
 | zero =>
  intro i hi
  refine ⟨-1,?_,?_⟩
  ·refine Ev.step (fun k=>by rw [eR]) ?_
   exact Ev.dF (by omega) Ev.pure
  ·rw [List.drop_of_length_le (by omega),aWb]; rfl
 | succ m ihm =>
  intro i hi
  have hlt:i<p.length:=by omega
  have hw:Ev (fun K=>uS K p[i]) (!sM p[i]):=Ev.step (fun k=>by rw [uS]) (Ev.bind (ih _ (List.getElem_mem hlt)) Ev.pure)
  rw [iP hlt,aTP]
  cases hf:sM p[i] with
  | false =>
   refine ⟨i,?_,by simp⟩
   refine Ev.step (fun k=>by rw [eR]) ?_
   refine Ev.dT (by omega) (Ev.opt (dX hlt) (Ev.bind hw ?_))
   rw [hf]
   exact Ev.isT rfl Ev.pure
  | true =>
   obtain ⟨r,h1,h2⟩:=ihm (i+1) (by omega)
   refine ⟨r,?_,by simpa using h2⟩
   refine Ev.step (fun k=>by rw [eR]) ?_
   refine Ev.dT (by omega) (Ev.opt (dX hlt) (Ev.bind hw ?_))
   rw [hf,cX (by omega)]
   exact Ev.isF (by simp) h1
theorem bEa:∀ t:Tr,t.w≤1099511627776→Ev (fun K=>qN K t) (sM t):=Tr.ind
 (fun _=>Ev.step (fun k=>by rw [qN]) (Ev.pure' aLP.symm))
 fun k n nm mk ks ih h=>by
  obtain ⟨h1,h2⟩:=aS1 h
  refine Ev.step (fun k=>by rw [qN]) ?_
  obtain ⟨r,g1,g2⟩:=aT3 h2 (fun x hx=>ih x hx (by have:=aBK hx; omega)) ks.length 0 (by omega)
  refine Ev.bind (a:=!aUk ks) ?_ (Ev.pure' (by rw [aFc,Bool.not_not]))
  refine Ev.step (fun k=>by rw [slices_ContainsFunc]) (Ev.bind (a:=r) (Ev.step (fun k=>by rw [slices_IndexFunc]; rfl) g1) (Ev.pure' (by simpa using g2)))
def pZ:Tr→Nat→List Cell
 | .nil,_=>[]
 | .node k n nm mk ks,f=>(go ks f [] []).2++[⟨k,n,nm,mk,(go ks f [] []).1⟩]
where go:List Tr→Nat→List Int→List Cell→List Int×List Cell
 | [],_,kids,out=>(kids,out)
 | t :: ts,f,kids,out=>go ts f (kids++[((f+(out++pZ t (f+out.length)).length:Nat):Int) - 1]) (out++pZ t (f+out.length))
abbrev aG1 (l:List Tr) (f:Nat) (kids:List Int) (out:List Cell):List Int×List Cell:=pZ.go l f kids out
theorem aTn (f:Nat) (kids:List Int) (out:List Cell):aG1 [] f kids out=(kids,out):=by simp [pZ.go]
theorem aRq (t:Tr) (ts:List Tr) (f:Nat) (kids:List Int) (out:List Cell) :
  aG1 (t :: ts) f kids out=aG1 ts f (kids++[((f+(out++pZ t (f+out.length)).length:Nat):Int) - 1]) (out++pZ t (f+out.length)):=by simp [pZ.go]
theorem aZD (f:Nat):pZ .nil f=[]:=by simp [pZ]
theorem aRg {k n nm mk ks} (f:Nat):pZ (Tr.node k n nm mk ks) f=(aG1 ks f [] []).2++[⟨k,n,nm,mk,(aG1 ks f [] []).1⟩]:=by simp [pZ]
theorem aT8:∀ {l:List Tr} (f:Nat) (kids:List Int) (out:List Cell),(∀ x∈l,∀ f,(pZ x f).length=oD x)→(aG1 l f kids out).2.length=out.length+aJA l
 | [],f,kids,out,_=>by simp [aTn,aLY]
 | t :: l,f,kids,out,h=>by
  rw [aRq,aFV,aT8 (l:=l) _ _ _ fun x hx=>h x (List.mem_cons_of_mem _ hx),List.length_append,h t List.mem_cons_self]
  omega
theorem bAa:∀ (t:Tr) (f:Nat),(pZ t f).length=oD t:=Tr.ind (by simp [aZD,aQk]) fun k n nm mk ks ih f=>by
 rw [aRg,aCI,List.length_append,aT8 _ _ _ ih]; simp; omega
theorem aYK {a b:Int} {nm mk:List UInt8} {ks:List Tr} {acc:List Cell} (hl:ks.length≤1099511627776)
  (ih:∀ x∈ks,∀ acc:List Cell,acc.length+x.w≤1099511627776→Ev (fun K=>qL K x acc) ((((acc++pZ x acc.length).length:Nat):Int) - 1,acc++pZ x acc.length)):∀ (m i:Nat) (kids:List Int) (out:List Cell),ks.length=i+m→kids.length=i→acc.length+out.length+wL (ks.drop i)≤1099511627776 →
  Ev (fun K=>kZ K ks (i:Int) (acc++out) a b nm mk kids) ((((acc++((aG1 (ks.drop i) acc.length kids out).2++[(⟨a,b,nm,mk,(aG1 (ks.drop i) acc.length kids out).1⟩:Cell)])).length:Nat):Int) - 1,acc++((aG1 (ks.drop i) acc.length kids out).2++[⟨a,b,nm,mk,(aG1 (ks.drop i) acc.length kids out).1⟩])):=by
 intro m
 induction m with
 | zero =>
  intro i kids out hi hk ho
  refine Ev.step (fun k=>by rw [kZ]) ?_
  have hd:ks.drop i=[]:=List.drop_of_length_le (by omega)
  rw [hd] at ho ⊢
  rw [aTn]
  refine Ev.dF (by omega) (Ev.opt (cM (by simp; omega)) (Ev.pure' ?_))
  rw [nC (by simp; omega) (by simp; omega),List.append_assoc]
 | succ m ihm =>
  intro i kids out hi hk ho
  have hlt:i<ks.length:=by omega
  rw [iP hlt,aD] at ho
  rw [iP hlt,aRq]
  have hc:=bAa ks[i] (acc.length+out.length)
  have hs:=aX1 ks[i]
  have hw:=aV3 ks[i]
  refine Ev.step (fun k=>by rw [kZ]) ?_
  refine Ev.dT (by omega) (Ev.opt (dX hlt) ?_)
  refine Ev.bind (ih _ (List.getElem_mem hlt) (acc++out) (by simp; omega)) ?_
  have hlen:(out++pZ ks[i] (acc.length+out.length)).length=out.length+oD ks[i]:=by rw [List.length_append,hc]
  refine Ev.opt (cM (by simp; omega)) ?_
  rw [cX (by omega)]
  have:=ihm (i+1) (kids++[((acc.length+(out++pZ ks[i] (acc.length+out.length)).length:Nat):Int) - 1]) (out++pZ ks[i] (acc.length+out.length)) (by omega) (by simp [hk]) (by omega)
  simpa [Nat.add_assoc] using this
theorem bGR:∀ t:Tr,sM t=true→∀ acc:List Cell,acc.length+t.w≤1099511627776→Ev (fun K=>qL K t acc) ((((acc++pZ t acc.length).length:Nat):Int) - 1,acc++pZ t acc.length):=Tr.ind
 (fun h=>by rw [aLP] at h; cases h)
 fun k n nm mk ks ih h acc hf=>by
  rw [aFc] at h
  rw [aJ] at hf
  have hl:=aIW ks
  refine Ev.step (fun k=>by rw [qL]) ?_
  have:=aYK (a:=k) (b:=n) (nm:=nm) (mk:=mk) (acc:=acc) (by omega) (fun x hx f' hf'=>ih x hx (aHS.1 h x hx) f' hf') ks.length 0 [] [] (by omega) rfl (by simp; omega)
  rw [aRg]
  simpa using this
def aJu (t:Tr):List Cell×Int:=if sM t=true then (if 8192<oD t then ([],3) else (pZ t 0,0)) else ([],1)
theorem bFY (t:Tr) (h:t.w≤1099511627776):Ev (fun K=>rE K t) (aJu t):=by
 unfold rE aJu
 refine Ev.bind (bEa t h) ?_
 by_cases hf:sM t=true
 ·rw [if_pos hf]
  refine Ev.isF (by simp [hf]) (Ev.bind (bFC t h) ?_)
  by_cases hz:8192<oD t
  ·rw [if_pos hz]; exact Ev.dT (by omega) Ev.pure
  ·rw [if_neg hz]
   refine Ev.dF (by omega) (Ev.bind (bGR t hf [] (by simpa using h)) (Ev.pure' ?_))
   simp
 ·rw [if_neg hf]
  exact Ev.isT (by simp [hf]) Ev.pure
end Go.Proofs.YtjhfgiieicloeaaGreatDoor

/- Plain facts of trees, part 3: what cells are opened to. -/
namespace Go.Proofs.YtjhfgiieicloeaaGreatDoor
open Go Go.Am Go.Sx
def pE (l:List Cell):List Int:=l.flatMap (fun c:Cell=>c.2.2.2.2)
theorem aLa (l m:List Cell):pE (l++m)=pE l++pE m:=by simp [pE]
theorem bEx (c:Cell):pE [c]=c.2.2.2.2:=by simp [pE]
theorem aL2 {p:List Cell} {i:Nat} (h:i<p.length):pE (p.take (i+1))=pE (p.take i)++p[i].2.2.2.2:=by
 rw [oZ h,aLa,bEx]
def aWk (acc:List Tr) (c:Cell):List Tr:=acc++[.node c.1 c.2.1 c.2.2.1 c.2.2.2.1 (c.2.2.2.2.map fun k=>acc.getD k.toNat .nil)]
def iI (l:List Cell):List Tr:=l.foldl aWk []
theorem bEf:∀ (l:List Cell) (acc:List Tr),∃ r,l.foldl aWk acc=acc++r∧r.length=l.length
 | [],acc=>⟨[],by simp,rfl⟩
 | c :: l,acc=>by
  obtain ⟨r,h1,h2⟩:=bEf l (aWk acc c)
  refine ⟨.node c.1 c.2.1 c.2.2.1 c.2.2.2.1 (c.2.2.2.2.map fun k=>acc.getD k.toNat .nil) :: r,?_,by simp [h2]⟩
  rw [List.foldl_cons,h1,aWk]; simp
theorem aFv (l:List Cell):(iI l).length=l.length:=by
 obtain ⟨r,h1,h2⟩:=bEf l []
 rw [iI,h1]; simpa using h2
theorem aZB (l m:List Cell):∃ r,iI (l++m)=iI l++r:=by
 obtain ⟨r,h1,_⟩:=bEf m (iI l)
 exact ⟨r,by rw [iI,List.foldl_append]; exact h1⟩
theorem aY4 (l:List Cell) (c:Cell):iI (l++[c])=aWk (iI l) c:=by simp [iI]
theorem aRi {p:List Cell} {i:Nat} (h:i<p.length):iI (p.take (i+1))=iI (p.take i)++[.node p[i].1 p[i].2.1 p[i].2.2.1 p[i].2.2.2.1 (p[i].2.2.2.2.map fun k=>(iI (p.take i)).getD k.toNat .nil)]:=by
 rw [oZ h,aY4,aWk]
theorem aGC {p:List Cell} {i j:Nat} (hj:j<i) (hi:i≤p.length):(iI (p.take i)).getD j .nil=(iI p).getD j .nil:=by
 obtain ⟨r,hr⟩:=aZB (p.take i) (p.drop i)
 rw [List.take_append_drop] at hr
 have hl:=aFv (p.take i)
 rw [List.length_take] at hl
 rw [hr,List.getD_eq_getElem?_getD,List.getD_eq_getElem?_getD,List.getElem?_append_left (by omega)]
theorem aQP {p:List Cell} {i:Nat} (h:i<p.length):(iI p).getD i .nil=.node p[i].1 p[i].2.1 p[i].2.2.1 p[i].2.2.2.1 (p[i].2.2.2.2.map fun k=>(iI (p.take i)).getD k.toNat .nil):=by
 have hl:=aFv (p.take i)
 rw [List.length_take] at hl
 rw [← aGC (i:=i+1) (by omega) (by omega),aRi h,List.getD_eq_getElem?_getD,List.getElem?_append_right (by omega)]
 rw [show i - (iI (p.take i)).length=0 by omega]
 rfl
def aTs (p:List Cell) (n:Nat):Prop:=∀ (i:Nat) (h:i<p.length),i<n→∀ k∈p[i].2.2.2.2,0≤k∧k<i
open Classical in
noncomputable def xT (p:List Cell):Tr×Int :=
 if p.length=0 then (.nil,1) else if 8192<p.length then (.nil,3)
 else if aTs p p.length∧∀ j:Nat,j+1<p.length→(pE p).count (j:Int)=1 then ((iI p).getD (p.length - 1) .nil,0) else (.nil,16)
theorem aNB {p:List Cell} (h0:p.length≠0) (h1:p.length≤8192) (hn:¬ (aTs p p.length∧∀ j:Nat,j+1<p.length→(pE p).count (j:Int)=1)):xT p=(.nil,16):=by
 unfold xT; rw [if_neg h0,if_neg (by omega),if_neg hn]
theorem bAk {p:List Cell} (h0:p.length≠0) (h1:p.length≤8192) (hn:aTs p p.length∧∀ j:Nat,j+1<p.length→(pE p).count (j:Int)=1):xT p=((iI p).getD (p.length - 1) .nil,0):=by
 unfold xT; rw [if_neg h0,if_neg (by omega),if_pos hn]
theorem aWn {p:List Cell} (h1:p.length≤8192) {i:Nat} (hi:i<p.length) {k:Int} (hk:k∈p[i].2.2.2.2) (hb:¬ (0≤k∧k<i)):xT p=(.nil,16) :=
 aNB (by omega) h1 fun h=>hb (h.1 i hi hi k hk)
theorem aWh {l:List Int} {j:Nat} (h:j<l.length) (s:List Int):s++l.take (j+1)=(s++l.take j)++[l[j]]:=by
 rw [oZ h,List.append_assoc]
end Go.Proofs.YtjhfgiieicloeaaGreatDoor

/- Plain facts of trees, part 4: an opened tree is whole and as large as its cells. -/
namespace Go.Proofs.YtjhfgiieicloeaaGreatDoor
open Go Go.Am Go.Sx
def aDy (W:Nat→Nat) (seen:List Int) (i:Nat):Nat:=((List.range i).map fun j:Nat=>if (j:Int)∈seen then 0 else W j).sum
theorem aGv (W:Nat→Nat) (seen:List Int) (i:Nat):aDy W seen (i+1)=aDy W seen i+if (i:Int)∈seen then 0 else W i:=by
 unfold aDy
 rw [List.range_succ,List.map_append,List.sum_append]
 simp
theorem aYz {W:Nat→Nat} {seen:List Int} {k:Int} (h0:0≤k) (hn:k∉seen):∀ i:Nat,aDy W (seen++[k]) i+(if k<i then W k.toNat else 0)=aDy W seen i:=by
 intro i
 induction i with
 | zero=>rw [if_neg (by omega)]; simp [aDy]
 | succ i ih =>
  rw [aGv,aGv]
  by_cases e:k=(i:Int)
  ·subst e
   rw [if_neg (by omega)] at ih
   rw [if_pos (by simp),if_pos (by omega),if_neg hn]
   simp only [Int.toNat_natCast]
   omega
  ·have hm:((i:Int)∈seen++[k])↔(i:Int)∈seen:=by
    rw [List.mem_append,List.mem_singleton]
    exact ⟨fun h=>h.elim id fun h=>absurd h.symm e,.inl⟩
   simp only [hm]
   by_cases hlt:k<(i:Int)
   ·rw [if_pos hlt] at ih; rw [if_pos (show k<((i+1:Nat):Int) by omega)]; omega
   ·rw [if_neg hlt] at ih; rw [if_neg (show ¬ k<((i+1:Nat):Int) by omega)]; omega
theorem aOR {W:Nat→Nat} {i:Nat}:∀ (ks seen:List Int),(∀ k∈ks,0≤k∧k<i)→(seen++ks).Nodup→aDy W (seen++ks) i+(ks.map fun k=>W k.toNat).sum=aDy W seen i
 | [],seen,_,_=>by simp
 | k :: ks,seen,h,hn=>by
  have hk:=h k List.mem_cons_self
  have e:seen++k :: ks=(seen++[k])++ks:=by simp
  rw [e] at hn ⊢
  have h1:=aOR (W:=W) ks (seen++[k]) (fun x hx=>h x (List.mem_cons_of_mem _ hx)) hn
  have hns:k∉seen:=by
   have:=(List.nodup_append.1 hn).1
   intro hm
   exact (List.nodup_append.1 this).2.2 k hm k (by simp) rfl
  have h2:=aYz (W:=W) hk.1 hns i
  rw [if_pos hk.2] at h2
  rw [List.map_cons,List.sum_cons]
  omega
theorem bCZ {α:Type} (f:α→Tr):∀ l:List α,wL (l.map f)=(l.map fun x=>(f x).w).sum
 | []=>by simp [aK]
 | x :: l=>by rw [List.map_cons,aD,bCZ f l]; simp
theorem aYG:∀ l:List Nat,(l.map fun _=>0).sum=0
 | []=>rfl
 | _ :: l=>by rw [List.map_cons,List.sum_cons,aYG l]
section
variable {p:List Cell} (hv:aTs p p.length)
include hv
theorem bAc {i:Nat} (hi:i≤p.length):∀ k∈pE (p.take i),0≤k∧k+1<max i 1:=by
 induction i with
 | zero=>intro k hk; simp [pE] at hk
 | succ i ih =>
  intro k hk
  rw [aL2 (by omega)] at hk
  rcases List.mem_append.1 hk with h | h
  ·have:=ih (by omega) k h; omega
  ·have:=hv i (by omega) (by omega) k h; omega
theorem roots_are (hn:(pE p).Nodup):∀ i:Nat,i≤p.length→aDy (fun j=>((iI p).getD j .nil).w) (pE (p.take i)) i=i:=by
 intro i
 induction i with
 | zero=>intro _; simp [aDy]
 | succ i ih =>
  intro hi
  have hl:i<p.length:=by omega
  have hsub:(pE (p.take (i+1))).Nodup:=by
   have e:pE p=pE (p.take (i+1))++pE (p.drop (i+1)):=by rw [← aLa,List.take_append_drop]
   rw [e] at hn
   exact (List.nodup_append.1 hn).1
  rw [aGv]
  have hni:(i:Int)∉pE (p.take (i+1)):=fun hm=>by
   have:=bAc hv hi _ hm; omega
  rw [if_neg hni,aQP hl,aJ,bCZ]
  rw [aL2 hl] at hsub ⊢
  have hk:=hv i hl hl
  have:=aOR (W:=fun j=>((iI p).getD j .nil).w) p[i].2.2.2.2 (pE (p.take i)) hk hsub
  have hmap:(p[i].2.2.2.2.map fun k=>((iI (p.take i)).getD k.toNat .nil).w)=p[i].2.2.2.2.map fun k=>((iI p).getD k.toNat .nil).w:=by
   apply List.map_congr_left
   intro k hm
   have:=hk k hm
   rw [aGC (by omega) (by omega)]
  rw [hmap]
  have:=ih (by omega)
  omega
theorem aVO (hc:∀ j:Nat,j+1<p.length→(pE p).count (j:Int)=1):(pE p).Nodup:=by
 rw [List.nodup_iff_count]
 intro a
 by_cases hm:a∈pE p
 ·have:=bAc hv (Nat.le_refl _) a (by rw [List.take_length]; exact hm)
  have h1:=hc a.toNat (by omega)
  rw [Int.toNat_of_nonneg this.1] at h1
  omega
 ·rw [List.count_eq_zero.2 hm]; omega
theorem aZG:∀ n i:Nat,i<n→i<p.length→sM ((iI p).getD i .nil)=true:=by
 intro n
 induction n with
 | zero=>intro i h; omega
 | succ n ih =>
  intro i hi hl
  rw [aQP hl,aFc,aHS]
  intro x hx
  obtain ⟨k,hk,rfl⟩:=List.mem_map.1 hx
  have:=hv i hl hl k hk
  rw [aGC (by omega) (by omega)]
  exact ih _ (by omega) (by omega)
end
theorem bHs:∀ t:Tr,sM t=true→t.w=oD t:=Tr.ind (fun h=>by rw [aLP] at h; cases h) fun k n nm mk ks ih h=>by
 rw [aFc,aHS] at h
 rw [aJ,aCI]
 have:∀ l:List Tr,(∀ x∈l,x.w=oD x)→wL l=aJA l:=by
  intro l
  induction l with
  | nil=>intro _; simp [aK,aLY]
  | cons x l ihl=>intro hh; rw [aD,aFV,hh x List.mem_cons_self,ihl fun y hy=>hh y (List.mem_cons_of_mem _ hy)]
 rw [this ks fun x hx=>ih x hx (h x hx)]
theorem aRd (p:List Cell):((xT p).1=.nil∧(xT p).2≠0)∨((xT p).2=0∧p.length≠0∧p.length≤8192∧sM (xT p).1=true∧oD (xT p).1=p.length∧(xT p).1.w=p.length ∧
  (xT p).1=(iI p).getD (p.length - 1) .nil∧aTs p p.length∧∀ j:Nat,j+1<p.length→(pE p).count (j:Int)=1):=by
 unfold xT
 by_cases h0:p.length=0
 ·rw [if_pos h0]; exact .inl ⟨rfl,by decide⟩
 rw [if_neg h0]
 by_cases h1:8192<p.length
 ·rw [if_pos h1]; exact .inl ⟨rfl,by decide⟩
 rw [if_neg h1]
 split
 ·rename_i hg
  refine .inr ⟨rfl,h0,by omega,?_⟩
  have hn:=aVO hg.1 hg.2
  have hf:=aZG hg.1 p.length (p.length - 1) (by omega) (by omega)
  have hr:=roots_are hg.1 hn p.length (Nat.le_refl _)
  rw [List.take_length] at hr
  obtain ⟨n,hnl⟩:∃ n,p.length=n+1:=⟨p.length - 1,by omega⟩
  rw [hnl,aGv] at hr
  have hz:aDy (fun j=>((iI p).getD j .nil).w) (pE p) n=0:=by
   unfold aDy
   have:((List.range n).map fun j:Nat=>if (j:Int)∈pE p then 0 else ((iI p).getD j .nil).w)=(List.range n).map fun _=>0:=by
    apply List.map_congr_left
    intro j hj
    rw [List.mem_range] at hj
    have:=hg.2 j (by omega)
    rw [if_pos (List.count_pos_iff.1 (by omega))]
   rw [this]
   exact aYG _
  have hni:(n:Int)∉pE p:=fun hm=>by
   have:=bAc hg.1 (Nat.le_refl _) _ (by rw [List.take_length]; exact hm); omega
  rw [hz,if_neg hni] at hr
  have hw:((iI p).getD (p.length - 1) .nil).w=p.length:=by rw [hnl,Nat.add_sub_cancel]; omega
  exact ⟨hf,by rw [← bHs _ hf]; exact hw,hw,rfl,hg.1,hg.2⟩
 ·exact .inl ⟨rfl,by decide⟩
theorem bBp (p:List Cell):(xT p).1.w≤8192:=by
 rcases aRd p with ⟨h,_⟩ | h
 ·rw [h]; decide
 ·omega
end Go.Proofs.YtjhfgiieicloeaaGreatDoor

/- Plain facts of trees, part 9: the program's way to open cells. -/
namespace Go.Proofs.YtjhfgiieicloeaaGreatDoor
open Go Go.Am Go.Sx
def aBj (n:Nat) (seen:List Int):List Bool:=(List.range n).map fun j:Nat=>decide ((j:Int)∈seen)
theorem aI6 (n:Nat) (s:List Int):(aBj n s).length=n:=by simp [aBj]
theorem aTZ {n:Nat} {s:List Int} {k:Int} (h0:0≤k) (h:k<n):aU (aBj n s) k=some (decide (k∈s)):=by
 unfold aU aBj
 rw [if_pos h0,List.getElem?_map,List.getElem?_range (by omega)]
 simp [Int.toNat_of_nonneg h0]
theorem bAI {n:Nat} {s:List Int} {k:Int} (h0:0≤k):(aBj n s).set k.toNat true=aBj n (s++[k]):=by
 apply List.ext_getElem?
 intro j
 unfold aBj
 rw [List.getElem?_set]
 simp only [List.length_map,List.length_range,List.getElem?_map]
 by_cases e:k.toNat=j
 ·subst e
  by_cases hl:k.toNat<n
  ·rw [if_pos rfl,if_pos hl,List.getElem?_range hl]
   simp [Int.toNat_of_nonneg h0]
  ·rw [if_pos rfl,if_neg hl,List.getElem?_eq_none (by simp; omega)]; rfl
 ·rw [if_neg e]
  by_cases hl:j<n
  ·rw [List.getElem?_range hl]
   have hne:¬ (j:Int)=k:=by omega
   simp [List.mem_append,hne]
  ·rw [List.getElem?_eq_none (by simp; omega)]; rfl

def aBN (p:List Cell) (i:Nat):List Tr:=iI (p.take i)++List.replicate (p.length - i) .nil
theorem aGt {p:List Cell} {i:Nat} (h:i≤p.length):(aBN p i).length=p.length:=by
 have:=aFv (p.take i)
 rw [List.length_take] at this
 simp [aBN]; omega
theorem aRt {p:List Cell} {i:Nat} {k:Int} (h0:0≤k) (hk:k<i) (h:i≤p.length):aU (aBN p i) k=some ((iI (p.take i)).getD k.toNat .nil):=by
 have:=aFv (p.take i)
 rw [List.length_take] at this
 unfold aU aBN
 rw [if_pos h0,List.getElem?_append_left (by omega),List.getD_eq_getElem?_getD,List.getElem?_eq_getElem (by omega)]
 rfl
theorem aYh {p:List Cell} {i:Nat} (h:i<p.length) :
  (aBN p i).set i (.node p[i].1 p[i].2.1 p[i].2.2.1 p[i].2.2.2.1 (p[i].2.2.2.2.map fun k=>(iI (p.take i)).getD k.toNat .nil))=aBN p (i+1):=by
 have hl:=aFv (p.take i)
 rw [List.length_take] at hl
 unfold aBN
 rw [aRi h,List.set_append,if_neg (by omega),show i - (iI (p.take i)).length=0 by omega,show p.length - i=(p.length - (i+1))+1 by omega,List.replicate_succ,List.set_cons_zero]
 simp

theorem aU3 {l:List Bool} (hl:l.length≤1099511627776):∀ (m i:Nat),l.length=i+m→∃ r:Int,Ev (fun K=>hG K l false (i:Int)) r∧(0≤r↔false∈l.drop i):=by
 intro m
 induction m with
 | zero =>
  intro i hi
  refine ⟨-1,Ev.step (fun k=>by rw [hG]) (Ev.dF (by omega) Ev.pure),?_⟩
  rw [List.drop_of_length_le (by omega)]; simp
 | succ m ih =>
  intro i hi
  have hlt:i<l.length:=by omega
  rw [iP hlt]
  cases hb:l[i] with
  | false =>
   refine ⟨i,Ev.step (fun k=>by rw [hG]) (Ev.dT (by omega) (Ev.opt (dX hlt) ?_)),by simp⟩
   rw [hb]
   exact Ev.isT rfl Ev.pure
  | true =>
   obtain ⟨r,h1,h2⟩:=ih (i+1) (by omega)
   refine ⟨r,Ev.step (fun k=>by rw [hG]) (Ev.dT (by omega) (Ev.opt (dX hlt) ?_)),by rw [h2]; simp⟩
   rw [hb,cX (by omega)]
   exact Ev.isF rfl h1

theorem aXx {l:List Bool} (hl:l.length≤1099511627776):Ev (fun K=>qF K l false) (eqB (false∈l) True):=by
 obtain ⟨r,h1,h2⟩:=aU3 hl l.length 0 (by omega)
 unfold qF aBS
 refine Ev.bind h1 (Ev.pure' ?_)
 rw [List.drop_zero] at h2
 by_cases h:false∈l
 ·rw [bJj (h2.2 h),bGs (by simp [h])]
 ·rw [bF8 (by simp [h])]
  exact decide_eq_false fun hr=>h (h2.1 hr)

theorem aX4 {p:List Cell} (h0:p.length≠0) (h1:p.length≤8192) {i j:Nat} (hi:i<p.length) (hj:j<p[i].2.2.2.2.length) (hb:0≤p[i].2.2.2.2[j]∧p[i].2.2.2.2[j]<i) (hm:p[i].2.2.2.2[j]∈pE (p.take i)++p[i].2.2.2.2.take j):xT p=(.nil,16):=by
 refine aNB h0 h1 fun h=>?_
 have hc:=h.2 p[i].2.2.2.2[j].toNat (by omega)
 rw [Int.toNat_of_nonneg hb.1] at hc
 have e:pE p=(pE (p.take i)++p[i].2.2.2.2.take j)++p[i].2.2.2.2[j] :: (p[i].2.2.2.2.drop (j+1)++pE (p.drop (i+1))):=by
  have e1:pE p=pE (p.take (i+1))++pE (p.drop (i+1)):=by rw [← aLa,List.take_append_drop]
  have e2:p[i].2.2.2.2=p[i].2.2.2.2.take j++p[i].2.2.2.2[j] :: p[i].2.2.2.2.drop (j+1):=by rw [← iP hj,List.take_append_drop]
  rw [e1,aL2 hi,List.append_assoc,List.append_assoc]
  congr 1
  rw [← List.cons_append,← List.append_assoc,← e2]
 rw [e,List.count_append,List.count_cons,if_pos (by simp)] at hc
 have:=List.count_pos_iff.2 hm
 omega

section
variable {p:List Cell} (h0:p.length≠0) (h1:p.length≤8192) (hk:∀ c∈p,c.2.2.2.2.length≤1048576)
include h0 h1 hk

theorem aZV:∀ (m i:Nat),p.length=i+m→aTs p i→(pE (p.take i)).Nodup→Ev (fun K=>oL K p (aBN p i) (aBj p.length (pE (p.take i))) (i:Int)) (xT p):=by
 intro m
 induction m with
 | zero =>
  intro i hi hv hn
  refine Ev.step (fun k=>by rw [oL]) ?_
  refine Ev.dF (by omega) ?_
  have e:i=p.length:=by omega
  subst e
  rw [List.take_length] at hn ⊢
  rw [nC (by omega) (by omega),show (p.length:Int) - 1=((p.length - 1:Nat):Int) by omega]
  refine Ev.opt (xO (a:=0) (by omega) (by rw [aI6]; omega)) ?_
  refine Ev.bind (aXx (by simp [aI6]; omega)) ?_
  have hmem:(false∈((aBj p.length (pE p)).take (p.length - 1)).drop 0)↔∃ j:Nat,j+1<p.length∧(j:Int)∉pE p:=by
   rw [List.drop_zero,aBj,← List.map_take,List.take_range,Nat.min_eq_left (by omega)]
   simp only [List.mem_map,List.mem_range,decide_eq_false_iff_not]
   exact ⟨fun ⟨j,h1,h2⟩=>⟨j,by omega,h2⟩,fun ⟨j,h1,h2⟩=>⟨j,by omega,h2⟩⟩
  by_cases hx:∃ j:Nat,j+1<p.length∧(j:Int)∉pE p
  ·refine Ev.isT (bGs (eq_true (hmem.2 hx))) (Ev.pure' ?_)
   obtain ⟨j,h2,h3⟩:=hx
   refine (aNB h0 h1 fun h=>?_).symm
   have:=h.2 j h2
   rw [List.count_eq_zero.2 h3] at this
   omega
  ·refine Ev.isF (bF8 (fun h=>hx (hmem.1 (of_eq_true h)))) ?_
   rw [bAk h0 h1 ⟨hv,fun j hj=>?_⟩]
   ·refine Ev.iteT ⟨by omega,by rw [aGt (Nat.le_refl _)]; omega⟩ (Ev.opt (aRt (by omega) (by omega) (Nat.le_refl _)) (Ev.pure' ?_))
    rw [List.take_length]
    rfl
   ·have hm:(j:Int)∈pE p:=by
     by_cases hm:(j:Int)∈pE p
     ·exact hm
     ·exact absurd ⟨j,hj,hm⟩ hx
    have:=List.count_pos_iff.2 hm
    have:=List.nodup_iff_count.1 hn (j:Int)
    omega
 | succ m ih =>
  intro i hi hv hn
  have hl:i<p.length:=by omega
  have hkk:=hk _ (List.getElem_mem hl)
  refine Ev.step (fun k=>by rw [oL]) (Ev.dT (by omega) (Ev.opt (dX hl) ?_))
  have loop:∀ (m' j:Nat),p[i].2.2.2.2.length=j+m'→(∀ k∈p[i].2.2.2.2.take j,0≤k∧k<i)→(pE (p.take i)++p[i].2.2.2.2.take j).Nodup →
    Ev (fun K=>oQ K p (aBN p i) (aBj p.length (pE (p.take i)++p[i].2.2.2.2.take j)) (i:Int) (i:Int) p[i].2.2.2.2 (j:Int) p[i].1 p[i].2.1 p[i].2.2.1 p[i].2.2.2.1 ((p[i].2.2.2.2.take j).map fun k=>(iI (p.take i)).getD k.toNat .nil)) (xT p):=by
   intro m'
   induction m' with
   | zero =>
    intro j hj hg hnn
    refine Ev.step (fun k=>by rw [oQ]) (Ev.dF (by omega) ?_)
    rw [List.take_of_length_le (l:=p[i].2.2.2.2) (by omega)] at hg hnn ⊢
    refine Ev.iteT ⟨by omega,by rw [aGt (by omega)]; omega⟩ (Ev.opt (dX (by rw [aGt (by omega)]; omega)) ?_)
    rw [cX (by omega),Int.toNat_natCast,aYh hl]
    rw [← aL2 hl] at hnn ⊢
    refine ih (i+1) (by omega) (fun i' h' hlt k hk'=>?_) hnn
    by_cases e:i'=i
    ·subst e; exact hg k hk'
    ·exact hv i' h' (by omega) k hk'
   | succ m' ihm =>
    intro j hj hg hnn
    have hjl:j<p[i].2.2.2.2.length:=by omega
    refine Ev.step (fun k=>by rw [oQ]) (Ev.dT (by omega) (Ev.opt (dX hjl) ?_))
    refine Ev.d (fun e=>Ev.pure' (aWn h1 hl (List.getElem_mem hjl) (by omega)).symm) fun e=>?_
    refine Ev.d (fun e2=>Ev.pure' (aWn h1 hl (List.getElem_mem hjl) (by omega)).symm) fun e2=>?_
    refine Ev.iteT ⟨by omega,by rw [aI6]; omega⟩ (Ev.opt (aTZ (by omega) (by omega)) ?_)
    refine Ev.d (fun e3=>Ev.pure' (aX4 h0 h1 hl hjl ⟨by omega,by omega⟩ e3).symm) fun e3=>?_
    refine Ev.iteT ⟨by omega,by rw [aI6]; omega⟩ (Ev.opt (aTZ (by omega) (by omega)) ?_)
    refine Ev.iteT ⟨by omega,by rw [aGt (by omega)]; omega⟩ (Ev.opt (aRt (by omega) (by omega) (by omega)) (Ev.opt (cM (by simp; omega)) ?_))
    rw [cX (by omega),bAI (by omega),← aWh hjl]
    have:=ihm (j+1) (by omega) (fun k hk'=>?_) ?_
    ·rw [oZ hjl,List.map_append,List.map_cons,List.map_nil] at this
     rw [oZ hjl]
     exact this
    ·rw [oZ hjl] at hk'
     rcases List.mem_append.1 hk' with h | h
     ·exact hg k h
     ·rw [List.mem_singleton.1 h]; omega
    ·rw [aWh hjl,List.nodup_append]
     refine ⟨hnn,by simp,fun a ha b hb=>?_⟩
     rw [List.mem_singleton.1 hb]
     exact fun e=>e3 (e ▸ ha)
  have:=loop p[i].2.2.2.2.length 0 (by omega) (by simp) (by simpa using hn)
  simpa using this
end

theorem bEZ {p:List Cell} (hk:∀ c∈p,c.2.2.2.2.length≤1048576):Ev (fun K=>aFG K p) (xT p):=by
 unfold aFG
 by_cases h0:p.length=0
 ·refine Ev.dT (by omega) (Ev.pure' ?_)
  unfold xT; rw [if_pos h0]
 refine Ev.dF (by omega) ?_
 by_cases h1:8192<p.length
 ·refine Ev.dT (by omega) (Ev.pure' ?_)
  unfold xT; rw [if_neg h0,if_pos h1]
 refine Ev.dF (by omega) (Ev.opt (bAb (by omega)) (Ev.opt (bAb (by omega)) ?_))
 have:=aZV h0 (by omega) hk p.length 0 (by omega) (fun i _ hi=>by omega) (by simp [pE])
 have e:aBj p.length (pE (p.take 0))=List.replicate p.length false:=by
  apply List.ext_getElem
  ·simp [aBj]
  ·intro j h1 h2; simp [aBj,pE]
 rw [e] at this
 have e2:aBN p 0=List.replicate p.length .nil:=by simp [aBN,iI]
 rw [e2] at this
 exact this
end Go.Proofs.YtjhfgiieicloeaaGreatDoor

/- Shapes, part 1: what a tree of a category is, by the table. -/
namespace Go.Proofs.YtjhfgiieicloeaaGreatDoor
open Go Go.Am Go.Sx

inductive Good:Tr→Prop
 | mk {k n nm mk ks} (h1:nm.length≤1099511627776) (h2:mk.length≤1099511627776) (h3:ks.length≤1099511627776) (h4:∀ x∈ks,Good x):Good (.node k n nm mk ks)

abbrev Row:=Int×Int×List UInt8×List UInt8×Int×Int×List UInt8
def aUG:List Row:=([(1,1,([]:List UInt8),([]:List UInt8),0,0,([]:List UInt8)),(1,2,([]:List UInt8),([]:List UInt8),0,0,([]:List UInt8)),(1,3,([]:List UInt8),([]:List UInt8),0,0,([]:List UInt8)),(1,4,([108]:List UInt8),([]:List UInt8),0,0,([]:List UInt8)),(1,5,([]:List UInt8),([]:List UInt8),0,0,([116,116]:List UInt8)),(1,6,([]:List UInt8),([]:List UInt8),0,0,([116,116]:List UInt8)),(1,7,([110]:List UInt8),([]:List UInt8),0,0,([67]:List UInt8)),(2,20,([]:List UInt8),([]:List UInt8),(IntKind.i64.wrap (0 - 1073741824)),1073741824,([]:List UInt8)),(2,21,([]:List UInt8),([]:List UInt8),0,1,([]:List UInt8)),(2,22,([]:List UInt8),([]:List UInt8),0,0,([]:List UInt8)),(2,23,([108]:List UInt8),([]:List UInt8),0,0,([]:List UInt8)),(2,24,([110]:List UInt8),([]:List UInt8),0,0,([116,101]:List UInt8)),(2,25,([]:List UInt8),([]:List UInt8),0,0,([101,101]:List UInt8)),(2,26,([]:List UInt8),([]:List UInt8),0,0,([101,101]:List UInt8)),(2,27,([]:List UInt8),([]:List UInt8),0,0,([101]:List UInt8)),(2,28,([]:List UInt8),([]:List UInt8),0,0,([101]:List UInt8)),(2,29,([110]:List UInt8),([]:List UInt8),0,0,([101,101]:List UInt8)),(2,30,([]:List UInt8),([]:List UInt8),0,0,([101,101,101]:List UInt8)),(2,31,([]:List UInt8),([]:List UInt8),1,5,([101,101]:List UInt8)),(2,32,([]:List UInt8),([]:List UInt8),0,0,([101,65]:List UInt8)),(2,33,([]:List UInt8),([]:List UInt8),0,0,([101,116,65]:List UInt8)),(3,40,([]:List UInt8),([]:List UInt8),0,0,([42,105]:List UInt8)),(3,41,([108]:List UInt8),([]:List UInt8),0,0,([]:List UInt8)),(3,42,([110]:List UInt8),([]:List UInt8),0,0,([109]:List UInt8)),(3,43,([]:List UInt8),([]:List UInt8),0,1,([109,115]:List UInt8)),(4,50,([]:List UInt8),([]:List UInt8),0,0,([42,112]:List UInt8)),(4,51,([110]:List UInt8),([]:List UInt8),0,0,([]:List UInt8)),(4,52,([108]:List UInt8),([]:List UInt8),0,0,([115,116]:List UInt8)),(5,60,([110]:List UInt8),([]:List UInt8),0,0,([116]:List UInt8)),(5,61,([110]:List UInt8),([]:List UInt8),0,0,([116]:List UInt8)),(5,61,([110]:List UInt8),([]:List UInt8),0,0,([]:List UInt8)),(5,62,([110]:List UInt8),([]:List UInt8),0,0,([67]:List UInt8)),(5,63,([110]:List UInt8),([]:List UInt8),0,0,([115]:List UInt8)),(5,64,([]:List UInt8),([]:List UInt8),0,0,([115]:List UInt8)),(5,65,([108]:List UInt8),([108]:List UInt8),0,0,([]:List UInt8)),(6,70,([110]:List UInt8),([]:List UInt8),0,0,([101]:List UInt8)),(6,70,([110]:List UInt8),([]:List UInt8),0,0,([116,101]:List UInt8)),(6,71,([110]:List UInt8),([]:List UInt8),0,0,([116]:List UInt8)),(6,72,([110]:List UInt8),([]:List UInt8),0,0,([67]:List UInt8)),(6,73,([110]:List UInt8),([]:List UInt8),0,0,([109]:List UInt8)),(6,74,([110]:List UInt8),([]:List UInt8),0,0,([115]:List UInt8)),(6,75,([110]:List UInt8),([110]:List UInt8),0,0,([115,109]:List UInt8)),(6,76,([108]:List UInt8),([]:List UInt8),0,0,([]:List UInt8)),(6,77,([108]:List UInt8),([]:List UInt8),0,0,([]:List UInt8)),(7,80,([]:List UInt8),([]:List UInt8),0,0,([42,100]:List UInt8)),(8,8,([110]:List UInt8),([]:List UInt8),0,0,([116]:List UInt8)),(9,34,([110]:List UInt8),([110]:List UInt8),0,0,([101]:List UInt8))]:List (Int×Int×(List UInt8)×(List UInt8)×Int×Int×(List UInt8)))
def aMY (s what:List UInt8):Bool:=if what=[110] then mG s else if what=[108] then lgS s else decide (s=[])
def catS (c:UInt8):Int:=if c=116 then 1 else if c=101 then 2 else if c=109 then 3 else if c=115 then 4 else if c=112 then 5 else 6
def rM (is8:Tr→Bool):List (List UInt8)→List Tr→Bool
 | _,[]=>true
 | seen,k :: ks=>is8 k && (!decide (nameOf k∈seen) && rM is8 (seen++[nameOf k]) ks)
def aSk (c:UInt8) (x:Tr):Bool:=!(decide (c=105) && (decide (kindOf x=74) || decide (kindOf x=75)))
def dH (is:Int→Tr→Bool):List UInt8→List Tr→Bool
 | [],l=>decide (l.length=0)
 | c :: w,l =>
  if c=42 then l.all fun x=>is (catS (w.headD 0)) x && aSk (w.headD 0) x
  else if c=67 then rM (is 8) [] l && decide (0<l.length)
  else if c=65 then l.all (is 9) && decide (0<l.length)
  else match l with
   | []=>false
   | k :: ks=>is (catS c) k && dH is w ks
def eF (is:Int→Tr→Bool) (n:Int) (nm mk:List UInt8) (ks:List Tr) (r:Row):Bool :=
 aMY nm r.2.2.1 && (aMY mk r.2.2.2.1 && (decide (r.2.2.2.2.1≤n) && (decide (n≤r.2.2.2.2.2.1) && dH is r.2.2.2.2.2.2 ks)))
def aYN (is:Int→Tr→Bool) (c:Int) (t:Tr) (r:Row):Bool:=match t with
 | .nil=>false
 | .node k n nm mk ks=>decide (r.1=c) && (decide (r.2.1=k) && eF is n nm mk ks r)
def isF:Nat→Int→Tr→Bool
 | 0,_,_=>false
 | m+1,c,t=>aUG.any (aYN (isF m) c t)
theorem aPk {f g:Tr→Bool}:∀ (l:List Tr) (s:List (List UInt8)),(∀ x∈l,f x=g x)→rM f s l=rM g s l
 | [],_,_=>rfl
 | k :: ks,s,h=>by
  unfold rM
  rw [h k List.mem_cons_self,aPk ks _ fun x hx=>h x (List.mem_cons_of_mem _ hx)]
theorem aFS {f g:Tr→Bool}:∀ (l:List Tr),(∀ x∈l,f x=g x)→l.all f=l.all g
 | [],_=>rfl
 | k :: ks,h=>by rw [List.all_cons,List.all_cons,h k List.mem_cons_self,aFS ks fun x hx=>h x (List.mem_cons_of_mem _ hx)]
theorem aRz {f g:Int→Tr→Bool}:∀ (w:List UInt8) (l:List Tr),(∀ x∈l,∀ c,f c x=g c x)→dH f w l=dH g w l
 | [],_,_=>rfl
 | c :: w,l,h=>by
  unfold dH
  split
  ·exact aFS l fun x hx=>by rw [h x hx]
  ·split
   ·rw [aPk l [] fun x hx=>h x hx 8]
   ·split
    ·rw [aFS l fun x hx=>h x hx 9]
    ·cases l with
     | nil=>rfl
     | cons k ks=>simp only []; rw [h k List.mem_cons_self,aRz w ks fun x hx=>h x (List.mem_cons_of_mem _ hx)]
theorem aUd {f g:Int→Tr→Bool} {c k n:Int} {nm mk:List UInt8} {ks:List Tr} (h:∀ x∈ks,∀ c,f c x=g c x) (r:Row):aYN f c (.node k n nm mk ks) r=aYN g c (.node k n nm mk ks) r:=by
 unfold aYN eF
 simp only []
 rw [aRz _ _ h]
theorem bCK:∀ (m m':Nat) (t:Tr) (c:Int),t.w≤m→t.w≤m'→isF m c t=isF m' c t:=by
 intro m
 induction m with
 | zero=>intro m' t c h; have:=aV3 t; omega
 | succ m ih =>
  intro m' t c h h'
  have:=aV3 t
  obtain ⟨q,rfl⟩:∃ q,m'=q+1:=⟨m' - 1,by omega⟩
  unfold isF
  congr 1
  funext r
  cases t with
  | nil=>rfl
  | node k n nm mk ks =>
   rw [aJ] at h h'
   exact aUd (fun x hx c=>ih q x c (by have:=aBK hx; omega) (by have:=aBK hx; omega)) r
def isT (c:Int) (t:Tr):Bool:=isF t.w c t
theorem bEE (c:Int) (t:Tr):isT c t=aUG.any (aYN isT c t):=by
 have:=aV3 t
 obtain ⟨q,hq⟩:∃ q,t.w=q+1:=⟨t.w - 1,by omega⟩
 show isF t.w c t=aUG.any (aYN isT c t)
 rw [hq]
 show aUG.any (aYN (isF q) c t)=_
 congr 1
 funext r
 cases t with
 | nil=>rfl
 | node k n nm mk ks =>
  rw [aJ] at hq
  exact aUd (ks:=ks) (fun x hx c=>bCK q x.w x c (by have:=aBK hx; omega) (Nat.le_refl _)) r
def sel (c k:Int):List Row:=aUG.filter fun r=>decide (r.1=c) && decide (r.2.1=k)
theorem bBw (f:Row→Bool) (c k:Int):∀ l:List Row,(l.any fun r=>decide (r.1=c) && (decide (r.2.1=k) && f r))=(l.filter fun r=>decide (r.1=c) && decide (r.2.1=k)).any f
 | []=>rfl
 | r :: l=>by
  rw [List.any_cons,List.filter_cons,bBw f c k l]
  cases h1:decide (r.1=c) <;> cases h2:decide (r.2.1=k) <;> simp
theorem aWQ {c k n:Int} {nm mk:List UInt8} {ks:List Tr}:isT c (.node k n nm mk ks)=(sel c k).any (eF isT n nm mk ks):=by
 rw [bEE]
 exact bBw _ c k aUG
def eZ (c:Int):List Int:=(aUG.filter fun r=>decide (r.1=c)).map fun r=>r.2.1
theorem bEM {c k:Int} (h:k∉eZ c):sel c k=[]:=by
 unfold sel
 rw [List.filter_eq_nil_iff]
 intro r hr hx
 simp only [Bool.and_eq_true,decide_eq_true_eq] at hx
 apply h
 unfold eZ
 rw [List.mem_map]
 exact ⟨r,List.mem_filter.2 ⟨hr,by simp [hx.1]⟩,hx.2⟩
theorem nZ {c k n:Int} {nm mk:List UInt8} {ks:List Tr} (h:k∉eZ c):isT c (.node k n nm mk ks)=false:=by
 rw [aWQ,bEM h]; rfl
theorem aXJ (c:Int):isT c .nil=false:=by
 rw [bEE]
 exact List.any_eq_false.2 fun r _=>by simp [aYN]
end Go.Proofs.YtjhfgiieicloeaaGreatDoor

/- Shapes, part 2: the document's answer is the table's. -/
namespace Go.Proofs.YtjhfgiieicloeaaGreatDoor
open Go Go.Am Go.Sx

end Go.Proofs.YtjhfgiieicloeaaGreatDoor

/- Shapes, part 3: the program's types and expressions are the table's. -/
namespace Go.Proofs.YtjhfgiieicloeaaGreatDoor
open Go Go.Am Go.Sx

def gX (a b c:Bool) (n:Int) (nm mk:List UInt8):Bool:=(a || decide (nm=[])) && ((b || decide (mk=[])) && (c || decide (n=0)))
theorem dS (a b c:Bool) (k n:Int) (nm mk:List UInt8) (ks:List Tr):Ev (fun K=>bI K (.node k n nm mk ks) a b c) (gX a b c n nm mk):=by
 refine Ev.congr (f:=fun K=>_) ?_ (fun K=>by rw [bI])
 unfold gX
 cases a <;> cases b <;> cases c <;> simp only [iteS] <;> first
  | exact Ev.pure' (by simp)
  | (by_cases h:nm=[] <;> by_cases h':mk=[] <;> simp only [h,h',decide_true,decide_false] <;> exact Ev.pure' (by simp))

def k1S (p:Tr→Bool):List Tr→Bool
 | [x]=>p x
 | _=>false
def k2S (p q:Tr→Bool):List Tr→Bool
 | [x,y]=>p x && q y
 | _=>false
section
variable {is:Int→Tr→Bool}
theorem aBd {a:UInt8} {c:Int} (h1:a≠42) (h2:a≠67) (h3:a≠65) (hc:catS a=c) (l:List Tr):dH is [a] l=k1S (is c) l:=by
 subst hc
 unfold dH
 rw [if_neg h1,if_neg h2,if_neg h3]
 match l with
 | []=>rfl
 | [x]=>simp [dH,k1S]
 | x :: y :: r=>simp [dH,k1S]
theorem xG {a b:UInt8} {c d:Int} (h1:a≠42) (h2:a≠67) (h3:a≠65) (g1:b≠42) (g2:b≠67) (g3:b≠65) (hc:catS a=c) (hd:catS b=d) (l:List Tr):dH is [a,b] l=k2S (is c) (is d) l:=by
 subst hc hd
 unfold dH
 rw [if_neg h1,if_neg h2,if_neg h3]
 match l with
 | []=>rfl
 | [x]=>simp [aBd g1 g2 g3 rfl,k1S,k2S]
 | [x,y]=>simp [aBd g1 g2 g3 rfl,k1S,k2S]
 | x :: y :: z :: r=>simp [aBd g1 g2 g3 rfl,k1S,k2S]
end
theorem aGO (k n:Int) (nm mk:List UInt8) (ks:List Tr):Ev (fun K=>gQ K (.node k n nm mk ks)) (decide (ks.length=0)):=by
 refine Ev.congr (f:=fun K=>_) ?_ (fun K=>by rw [gQ])
 refine Ev.n (fun h=>Ev.pure' ?_) (fun h=>Ev.step (fun k=>by rw [zJ]) (Ev.pure' ?_))
 ·rw [decide_eq_false (by omega)]
 ·rw [decide_eq_true (by omega)]
section
variable {ks:List Tr}
theorem bBv {f:Nat→Tr→Option Bool} {p:Tr→Bool} (h:∀ x∈ks,Ev (fun K=>f K x) (p x)) :
  Ev (fun K=>iteS (!decide (((ks.length:Nat):Int)=1)) (some false) ((aU ks 0).bind fun v6=>((f K v6).bind fun v7=>(iteS (!v7) (some false) (some true))))) (k1S p ks):=by
 match ks,h with
 | [],_=>exact Ev.nT (by simp) Ev.pure
 | [x],h=>exact Ev.nF (by simp) (Ev.opt (a:=x) rfl (Ev.cast (Ev.andN (h x (by simp)) fun _=>Ev.pure) (by simp [k1S])))
 | x :: y :: r,_=>exact Ev.nT (by simp; omega) Ev.pure
theorem aZa {f g:Nat→Tr→Option Bool} {p q:Tr→Bool} (h:∀ x∈ks,Ev (fun K=>f K x) (p x)) (h':∀ x∈ks,Ev (fun K=>g K x) (q x)) :
  Ev (fun K=>iteS (!decide (((ks.length:Nat):Int)=2)) (some false) ((aU ks 0).bind fun v6=>((f K v6).bind fun v7=>(iteS (!v7) (some false) ((aU ks 1).bind fun v8=>((g K v8).bind fun v9=>(iteS (!v9) (some false) (some true)))))))) (k2S p q ks):=by
 match ks,h,h' with
 | [],_,_=>exact Ev.nT (by simp) Ev.pure
 | [x],_,_=>exact Ev.nT (by simp) Ev.pure
 | [x,y],h,h'=>exact Ev.nF (by simp) (Ev.opt (a:=x) rfl (Ev.cast (Ev.andN (h x (by simp)) fun _=>Ev.opt (a:=y) rfl (Ev.andN (h' y (by simp)) fun _=>Ev.pure)) (by simp [k2S])))
 | x :: y :: z :: r,_,_=>exact Ev.nT (by simp; omega) Ev.pure
theorem bFU {L:Nat→List Tr→Int→Option Bool} {f:Nat→Tr→Option Bool} {p:Tr→Bool}
  (hL:∀ k l i,L (k+1) l i=iteS (decide (i<((l.length:Nat):Int))) ((aU l i).bind fun v8=>((f k v8).bind fun v9=>(iteS (!v9) (some false) (L k l (IntKind.i64.wrap (i+1)))))) (some true))
  (hl:ks.length≤1099511627776) (h:∀ x∈ks,Ev (fun K=>f K x) (p x)):∀ (m i:Nat),ks.length=i+m→Ev (fun K=>L K ks (i:Int)) ((ks.drop i).all p):=by
 intro m
 induction m with
 | zero =>
  intro i hi
  refine Ev.step (fun k=>by rw [hL]) ?_
  refine Ev.dF (by omega) (Ev.pure' ?_)
  rw [List.drop_of_length_le (by omega)]; rfl
 | succ m ihm =>
  intro i hi
  have hlt:i<ks.length:=by omega
  rw [iP hlt,List.all_cons]
  refine Ev.step (fun k=>by rw [hL]) ?_
  refine Ev.dT (by omega) (Ev.opt (dX hlt) (Ev.andN (h _ (List.getElem_mem hlt)) fun _=>?_))
  rw [cX (by omega)]
  exact ihm (i+1) (by omega)
theorem aSB {L:Nat→List Tr→Int→Option Bool} {f:Nat→Tr→Option Bool} {p:Tr→Bool}
  (hL:∀ k l i,L (k+1) l i=iteS (decide (i<((l.length:Nat):Int))) ((aU l i).bind fun v8=>((f k v8).bind fun v9=>(iteS (!v9) (some false) (L k l (IntKind.i64.wrap (i+1)))))) (some true))
  (hl:ks.length≤1099511627776) (h:∀ x∈ks,Ev (fun K=>f K x) (p x)) {from':Nat} (hf:from'≤ks.length) :
  Ev (fun K=>(jA ks (from':Int) ((ks.length:Nat):Int)).bind fun v6=>L K v6 0) ((ks.drop from').all p):=by
 refine Ev.opt (xO hf (Nat.le_refl _)) ?_
 rw [List.take_length]
 have:=bFU (ks:=ks.drop from') hL (by simp; omega) (fun x hx=>h x (List.mem_of_mem_drop hx)) (ks.drop from').length 0 (by omega)
 simpa using this
end
theorem dY {n:Int}:(decide (0≤n) && decide (n≤0))=decide (n=0):=by
 by_cases h:n=0
 ·simp [h]
 ·rw [decide_eq_false h]
  by_cases h':0≤n
  ·rw [decide_eq_false (show ¬ n≤0 by omega),Bool.and_false]
  ·rw [decide_eq_false h',Bool.false_and]
theorem aYQ {n:Int}:(decide (0≤n) && decide (n≤1))=(decide (n=0) || decide (n=1)):=by
 by_cases h:n=0
 ·simp [h]
 ·by_cases h1:n=1
  ·simp [h1]
  ·rw [decide_eq_false h,decide_eq_false h1]
   by_cases h':0≤n
   ·rw [decide_eq_false (show ¬ n≤1 by omega),Bool.and_false]; rfl
   ·rw [decide_eq_false h',Bool.false_and]; rfl
theorem bZ (s:List UInt8):aMY s []=decide (s=[]):=rfl
theorem rX (s:List UInt8):aMY s [110]=mG s:=rfl
theorem aGJ (s:List UInt8):aMY s [108]=lgS s:=rfl

theorem aR {c k n:Int} {nm mk:List UInt8} {ks:List Tr} {r:Row} (h:sel c k=[r]):isT c (.node k n nm mk ks)=eF isT n nm mk ks r:=by
 rw [aWQ,h]; simp
theorem aKh {c k n:Int} {nm mk:List UInt8} {ks:List Tr} {r r':Row} (h:sel c k=[r,r']):isT c (.node k n nm mk ks)=(eF isT n nm mk ks r || eF isT n nm mk ks r'):=by
 rw [aWQ,h]; simp
theorem bAT {k n:Int} {nm mk:List UInt8} {ks:List Tr}:isT 8 (.node k n nm mk ks)=(decide (k=8) && (gX true false false n nm mk && (mG nm && k1S (isT 1) ks))):=by
 by_cases h:k=8
 ·subst h
  rw [aR (r:=(8,8,[110],[],0,0,[116])) rfl]
  simp only [eF,rX,bZ,aBd (a:=116) (c:=1) (by decide) (by decide) (by decide) rfl,gX,← dY]
  cases mG nm <;> simp [Bool.and_assoc]
 ·rw [nZ (by simpa [show eZ 8=[8] from rfl] using h),decide_eq_false h]; rfl
theorem bFQ {k n:Int} {nm mk:List UInt8} {ks:List Tr}:isT 9 (.node k n nm mk ks)=(decide (k=34) && (gX true true false n nm mk && (mG nm && (mG mk && k1S (isT 2) ks)))):=by
 by_cases h:k=34
 ·subst h
  rw [aR (r:=(9,34,[110],[110],0,0,[101])) rfl]
  simp only [eF,rX,aBd (a:=101) (c:=2) (by decide) (by decide) (by decide) rfl,gX,← dY]
  cases mG nm <;> cases mG mk <;> simp [Bool.and_assoc]
 ·rw [nZ (by simpa [show eZ 9=[34] from rfl] using h),decide_eq_false h]; rfl

theorem aXq {k n:Int} {nm mk:List UInt8} {ks:List Tr} (hl:ks.length≤1099511627776) (hg:∀ x∈ks,Good x)
  (ih:∀ x∈ks,Ev (fun K=>mF K x) (match x with | .nil=>false | .node _ _ _ _ l=>k1S (isT 1) l)) :
  Ev (fun K=>rA K (.node k n nm mk ks)) (rM (isT 8) [] ks && decide (0<ks.length)):=by
 refine Ev.step (fun k=>by rw [rA]) ?_
 have loop:∀ (m i:Nat) (sn:List (List UInt8×Bool)) (seen:List (List UInt8)),ks.length=i+m→(∀ s,(jD sn s).getD false=decide (s∈seen)) →
   Ev (fun K=>oM K (.node k n nm mk ks) ks (i:Int) sn) (rM (isT 8) seen (ks.drop i) && decide (0<ks.length)):=by
  intro m
  induction m with
  | zero =>
   intro i sn seen hi hs
   refine Ev.step (fun k=>by rw [oM]) ?_
   refine Ev.dF (by omega) (Ev.pure' ?_)
   rw [List.drop_of_length_le (by omega)]
   by_cases h:0<ks.length
   ·rw [decide_eq_true h,decide_eq_true (by omega)]; rfl
   ·rw [decide_eq_false h,decide_eq_false (by omega)]; rfl
  | succ m ihm =>
   intro i sn seen hi hs
   have hlt:i<ks.length:=by omega
   rw [iP hlt]
   unfold rM
   have nx:=fun sn seen=>ihm (i+1) sn seen (by omega)
   have e3:=ih _ (List.getElem_mem hlt)
   refine Ev.step (fun k=>by rw [oM]) ?_
   refine Ev.dT (by omega) (Ev.opt (dX hlt) ?_)
   rw [cX (by omega)]
   have gd:=hg _ (List.getElem_mem hlt)
   generalize ks[i]=x at *
   cases gd with
   | @mk k' n' nm' mk' ks' g1 g2 g3 g4 =>
    rw [bAT]
    simp only [nameOf]
    refine Ev.cast (Ev.andDN fun a1=>Ev.andN (dS ..) fun a2=>Ev.andN (hU nm') fun a3=>Ev.cast (b:=(!decide (nm'∈seen)) && (k1S (isT 1) ks' && (rM (isT 8) (seen++[nm']) (ks.drop (i+1)) && decide (0<ks.length)))) (Ev.is (v:=_) (fun h=>?_) (fun h=>?_)) rfl) ?_
    ·rw [hs] at h
     exact Ev.pure' (by rw [h]; rfl)
    ·rw [hs] at h
     rw [h]
     refine Ev.cast (Ev.andN e3 fun _=>nx _ (seen++[nm']) fun s=>?_) (by simp)
     rw [aUr]
     by_cases e:s=nm'
     ·rw [if_pos e]; simp [e]
     ·rw [if_neg e,hs]; simp [e]
    ·by_cases hm:nm'∈seen <;> cases decide (k'=8) <;> cases gX true false false n' nm' mk' <;> cases mG nm' <;> cases k1S (isT 1) ks' <;> simp [hm]
 have:=loop ks.length 0 [] [] (by omega) (fun s=>by simp [jD])
 simpa using this

theorem aJj:∀ t:Tr,Good t→Ev (fun K=>eP K t) (isT 1 t)∧Ev (fun K=>mF K t) (match t with | .nil=>false | .node _ _ _ _ l=>k1S (isT 1) l):=Tr.ind
 (fun h=>by cases h)
 fun k n nm mk ks ih h=>by
  cases h with
  | mk h1 h2 h3 h4 =>
   have ty:∀ x∈ks,Ev (fun K=>eP K x) (isT 1 x):=fun x hx=>(ih x hx (h4 x hx)).1
   refine ⟨?_,Ev.step (fun k=>by rw [mF]) (bBv ty)⟩
   have k2:∀ k,Ev (fun K=>sT K (.node k n nm mk ks)) (k2S (isT 1) (isT 1) ks):=fun k=>Ev.step (fun k=>by rw [sT]) (aZa ty ty)
   refine Ev.step (fun k=>by rw [eP]) ?_
   refine Ev.d (fun e=>?_) (fun e1=>Ev.d (fun e=>?_) (fun e2=>Ev.d (fun e=>?_) (fun e3=>Ev.d (fun e=>?_) (fun e4=>Ev.d (fun e=>?_) (fun e5=>Ev.d (fun e=>?_) (fun e6=>Ev.d (fun e=>?_) (fun e7=>Ev.pure' ?_)))))))
   ·subst e
    refine Ev.cast (Ev.andB (dS ..) fun _=>Ev.ret (aGO ..)) ?_
    rw [aR (r:=(1,1,[],[],0,0,[])) rfl]
    simp [eF,bZ,dH,gX,← dY,Bool.and_assoc]
   ·subst e
    refine Ev.cast (Ev.andB (dS ..) fun _=>Ev.ret (aGO ..)) ?_
    rw [aR (r:=(1,2,[],[],0,0,[])) rfl]
    simp [eF,bZ,dH,gX,← dY,Bool.and_assoc]
   ·subst e
    refine Ev.cast (Ev.andB (dS ..) fun _=>Ev.ret (aGO ..)) ?_
    rw [aR (r:=(1,3,[],[],0,0,[])) rfl]
    simp [eF,bZ,dH,gX,← dY,Bool.and_assoc]
   ·subst e
    refine Ev.cast (Ev.andB (dS ..) fun _=>Ev.andB (aBe nm) fun _=>Ev.ret (aGO ..)) ?_
    rw [aR (r:=(1,4,[108],[],0,0,[])) rfl]
    simp only [eF,bZ,aGJ,dH,gX,← dY]
    cases lgS nm <;> simp [Bool.and_assoc]
   ·subst e
    refine Ev.cast (Ev.andB (dS ..) fun _=>Ev.ret (k2 _)) ?_
    rw [aR (r:=(1,5,[],[],0,0,[116,116])) rfl]
    simp [eF,bZ,xG (a:=116) (b:=116) (c:=1) (d:=1) (by decide) (by decide) (by decide) (by decide) (by decide) (by decide) rfl rfl,gX,← dY,Bool.and_assoc]
   ·subst e
    refine Ev.cast (Ev.andB (dS ..) fun _=>Ev.ret (k2 _)) ?_
    rw [aR (r:=(1,6,[],[],0,0,[116,116])) rfl]
    simp [eF,bZ,xG (a:=116) (b:=116) (c:=1) (d:=1) (by decide) (by decide) (by decide) (by decide) (by decide) (by decide) rfl rfl,gX,← dY,Bool.and_assoc]
   ·subst e
    refine Ev.cast (Ev.andB (dS ..) fun _=>Ev.andB (hU nm) fun _=>Ev.ret (aXq h3 h4 fun x hx=>(ih x hx (h4 x hx)).2)) ?_
    rw [aR (r:=(1,7,[110],[],0,0,[67])) rfl]
    have e67:dH isT [67] ks=(rM (isT 8) [] ks && decide (0<ks.length)):=rfl
    simp only [eF,bZ,rX,e67,gX,← dY]
    cases mG nm <;> simp [Bool.and_assoc]
   ·rw [nZ (by simp [show eZ 1=[1,2,3,4,5,6,7] from rfl,e1,e2,e3,e4,e5,e6,e7])]
end Go.Proofs.YtjhfgiieicloeaaGreatDoor

/- Shapes, part 4: the program's expressions are the table's. -/
namespace Go.Proofs.YtjhfgiieicloeaaGreatDoor
open Go Go.Am Go.Sx

def mE (many:Nat):List UInt8:=List.replicate many 101
theorem aFL:∀ (many:Nat) (l:List Tr),dH isT (mE many) l=(decide (l.length=many) && l.all (isT 2))
 | 0,l=>by
  unfold mE dH
  cases l <;> simp
 | m+1,[]=>by
  rw [mE,List.replicate_succ]
  unfold dH
  simp
 | m+1,k :: ks=>by
  rw [mE,List.replicate_succ]
  unfold dH
  rw [if_neg (by decide),if_neg (by decide),if_neg (by decide)]
  have:=aFL m ks
  rw [mE] at this
  simp only [this,List.all_cons,List.length_cons,show catS 101=2 from rfl]
  by_cases h:ks.length=m
  ·simp [h]
  ·simp [h]
def hd1:List Tr→Bool
 | []=>false
 | x :: _=>isT 2 x
def hd2:List Tr→Bool
 | x :: y :: _=>isT 2 x && isT 1 y
 | _=>false
theorem bEe (l:List Tr):dH isT [101,65] l=(decide (1<l.length) && ((l.drop 1).all (isT 9) && hd1 l)):=by
 match l with
 | []=>rfl
 | x :: r =>
  unfold dH
  rw [if_neg (by decide),if_neg (by decide),if_neg (by decide)]
  have:dH isT [65] r=(r.all (isT 9) && decide (0<r.length)):=rfl
  simp only [this,show catS 101=2 from rfl,List.drop_succ_cons,List.drop_zero,List.length_cons]
  rw [show decide (1<r.length+1)=decide (0<r.length) by by_cases h:0<r.length <;> simp [h]]
  rw [hd1]
  cases isT 2 x <;> cases r.all (isT 9) <;> simp
theorem bCs (l:List Tr):dH isT [101,116,65] l=(decide (2<l.length) && ((l.drop 2).all (isT 9) && hd2 l)):=by
 match l with
 | []=>rfl
 | [x] =>
  unfold dH
  rw [if_neg (by decide),if_neg (by decide),if_neg (by decide)]
  simp [dH,hd2]
 | x :: y :: r =>
  unfold dH
  rw [if_neg (by decide),if_neg (by decide),if_neg (by decide)]
  simp only []
  unfold dH
  rw [if_neg (by decide),if_neg (by decide),if_neg (by decide)]
  have:dH isT [65] r=(r.all (isT 9) && decide (0<r.length)):=rfl
  simp only [this,show catS 101=2 from rfl,show catS 116=1 from rfl,List.drop_succ_cons,List.drop_zero,List.length_cons]
  rw [show decide (2<r.length+1+1)=decide (0<r.length) by by_cases h:0<r.length <;> simp [h] <;> omega]
  rw [hd2]
  cases isT 2 x <;> cases isT 1 y <;> cases r.all (isT 9) <;> simp

theorem bA6:∀ t:Tr,Good t→Ev (fun K=>fH K t) (isT 2 t)∧Ev (fun K=>tY K t) (isT 9 t)∧(∀ k n nm mk ks,t=.node k n nm mk ks→Ev (fun K=>qS K t) (k1S (isT 2) ks)∧Ev (fun K=>qE K t) (k2S (isT 1) (isT 2) ks)):=Tr.ind
 (fun h=>by cases h)
 fun k n nm mk ks ih h=>by
  cases h with
  | mk h1 h2 h3 h4 =>
   have ty:∀ x∈ks,Ev (fun K=>eP K x) (isT 1 x):=fun x hx=>(aJj x (h4 x hx)).1
   have ex:∀ x∈ks,Ev (fun K=>fH K x) (isT 2 x):=fun x hx=>(ih x hx (h4 x hx)).1
   have ar:∀ x∈ks,Ev (fun K=>tY K x) (isT 9 x):=fun x hx=>(ih x hx (h4 x hx)).2.1
   have k6:Ev (fun K=>qS K (.node k n nm mk ks)) (k1S (isT 2) ks):=Ev.step (fun k=>by rw [qS]) (bBv ex)
   have k4:Ev (fun K=>qE K (.node k n nm mk ks)) (k2S (isT 1) (isT 2) ks):=Ev.step (fun k=>by rw [qE]) (aZa ty ex)
   refine ⟨?_,?_,fun k' n' nm' mk' ks' e=>by cases e; exact ⟨k6,k4⟩⟩
   ·have k5:∀ k,Ev (fun K=>uD K (.node k n nm mk ks)) (k2S (isT 2) (isT 2) ks):=fun k=>Ev.step (fun k=>by rw [uD]) (aZa ex ex)
    have simple:∀ (k:Int) (many:Nat),Ev (fun K=>kK K (.node k n nm mk ks) (many:Int)) (gX false false false n nm mk && (decide (ks.length=many) && ks.all (isT 2))):=fun k many=>by
     refine Ev.step (fun k=>by rw [kK]) ?_
     refine Ev.andB (dS ..) fun _=>?_
     refine Ev.cast (Ev.andD (p:=((ks.length:Nat):Int)=(many:Int)) (b:=ks.all (isT 2)) fun _=>Ev.ret (Ev.step (fun k=>by rw [aEC]) ?_)) ?_
     ·exact aSB (from':=0) (fun k l i=>by rw [uP]) h3 ex (by omega)
     ·by_cases h:ks.length=many
      ·rw [decide_eq_true h,decide_eq_true (by omega)]
      ·rw [decide_eq_false h,decide_eq_false (by omega)]
    have arms:∀ (k:Int) (fr:Nat),Ev (fun K=>aAE K (.node k n nm mk ks) (fr:Int)) (decide (fr<ks.length) && (ks.drop fr).all (isT 9)):=fun k fr=>by
     refine Ev.step (fun k=>by rw [aAE]) ?_
     refine Ev.cast (Ev.andD (p:=(fr:Int)<((ks.length:Nat):Int)) (b:=(ks.drop fr).all (isT 9)) fun _=>Ev.ret (Ev.step (fun k=>by rw [aBP]) ?_)) ?_
     ·exact aSB (from':=fr) (fun k l i=>by rw [qD]) h3 ar (by omega)
     ·by_cases h:fr<ks.length
      ·rw [decide_eq_true h,decide_eq_true (by omega)]
      ·rw [decide_eq_false h,decide_eq_false (by omega)]
    refine Ev.step (fun k=>by rw [fH]) ?_
    refine Ev.d (fun e=>?_) (fun e1=>?_)
    ·subst e
     refine Ev.cast (Ev.andB (dS ..) fun _=>Ev.andD fun _=>Ev.andD fun _=>Ev.ret (aGO ..)) ?_
     rw [aR (r:=(2,20,[],[],IntKind.i64.wrap (0 - 1073741824),1073741824,[])) rfl,show IntKind.i64.wrap (0 - 1073741824)=-1073741824 from rfl]
     simp [eF,bZ,dH,gX,Bool.and_assoc]
    refine Ev.d (fun e=>?_) (fun e2=>?_)
    ·subst e
     refine Ev.cast (Ev.andB (b:=(decide (n=0) || decide (n=1)) && decide (ks.length=0)) (dS ..) fun _=>Ev.d (fun h=>Ev.cast (Ev.ret (aGO ..)) (by simp [h])) (fun h=>Ev.d (fun h'=>Ev.cast (Ev.ret (aGO ..)) (by simp [h'])) (fun h'=>Ev.pure' (by simp [h,h'])))) ?_
     rw [aR (r:=(2,21,[],[],0,1,[])) rfl]
     simp only [eF,bZ,dH,gX,← aYQ]
     simp [Bool.and_assoc]
    refine Ev.d (fun e=>?_) (fun e3=>?_)
    ·subst e
     refine Ev.cast (Ev.ret (simple 22 0)) ?_
     rw [aR (r:=(2,22,[],[],0,0,mE 0)) rfl]
     simp only [eF,bZ,aFL,gX,← dY]
     simp [Bool.and_assoc]
    refine Ev.d (fun e=>?_) (fun e4=>?_)
    ·subst e
     refine Ev.cast (Ev.andB (dS ..) fun _=>Ev.andB (aBe nm) fun _=>Ev.ret (aGO ..)) ?_
     rw [aR (r:=(2,23,[108],[],0,0,[])) rfl]
     simp only [eF,bZ,aGJ,dH,gX,← dY]
     cases lgS nm <;> simp [Bool.and_assoc]
    refine Ev.d (fun e=>?_) (fun e5=>?_)
    ·subst e
     refine Ev.cast (Ev.andB (dS ..) fun _=>Ev.andB (hU nm) fun _=>Ev.ret k4) ?_
     rw [aR (r:=(2,24,[110],[],0,0,[116,101])) rfl]
     simp only [eF,bZ,rX,xG (a:=116) (b:=101) (c:=1) (d:=2) (by decide) (by decide) (by decide) (by decide) (by decide) (by decide) rfl rfl,gX,← dY]
     cases mG nm <;> simp [Bool.and_assoc]
    refine Ev.d (fun e=>?_) (fun e6=>?_)
    ·subst e
     refine Ev.cast (Ev.ret (simple 25 2)) ?_
     rw [aR (r:=(2,25,[],[],0,0,mE 2)) rfl]
     simp only [eF,bZ,aFL,gX,← dY]
     simp [Bool.and_assoc]
    refine Ev.d (fun e=>?_) (fun e7=>?_)
    ·subst e
     refine Ev.cast (Ev.ret (simple 26 2)) ?_
     rw [aR (r:=(2,26,[],[],0,0,mE 2)) rfl]
     simp only [eF,bZ,aFL,gX,← dY]
     simp [Bool.and_assoc]
    refine Ev.d (fun e=>?_) (fun e8=>?_)
    ·subst e
     refine Ev.cast (Ev.ret (simple 27 1)) ?_
     rw [aR (r:=(2,27,[],[],0,0,mE 1)) rfl]
     simp only [eF,bZ,aFL,gX,← dY]
     simp [Bool.and_assoc]
    refine Ev.d (fun e=>?_) (fun e9=>?_)
    ·subst e
     refine Ev.cast (Ev.ret (simple 28 1)) ?_
     rw [aR (r:=(2,28,[],[],0,0,mE 1)) rfl]
     simp only [eF,bZ,aFL,gX,← dY]
     simp [Bool.and_assoc]
    refine Ev.d (fun e=>?_) (fun e10=>?_)
    ·subst e
     refine Ev.cast (Ev.andB (dS ..) fun _=>Ev.andB (hU nm) fun _=>Ev.ret (k5 _)) ?_
     rw [aR (r:=(2,29,[110],[],0,0,[101,101])) rfl]
     simp only [eF,bZ,rX,xG (a:=101) (b:=101) (c:=2) (d:=2) (by decide) (by decide) (by decide) (by decide) (by decide) (by decide) rfl rfl,gX,← dY]
     cases mG nm <;> simp [Bool.and_assoc]
    refine Ev.d (fun e=>?_) (fun e11=>?_)
    ·subst e
     refine Ev.cast (Ev.ret (simple 30 3)) ?_
     rw [aR (r:=(2,30,[],[],0,0,mE 3)) rfl]
     simp only [eF,bZ,aFL,gX,← dY]
     simp [Bool.and_assoc]
    refine Ev.d (fun e=>?_) (fun e12=>?_)
    ·subst e
     refine Ev.cast (Ev.andB (dS ..) fun _=>Ev.andD fun _=>Ev.andD fun _=>Ev.ret (k5 _)) ?_
     rw [aR (r:=(2,31,[],[],1,5,[101,101])) rfl]
     simp only [eF,bZ,xG (a:=101) (b:=101) (c:=2) (d:=2) (by decide) (by decide) (by decide) (by decide) (by decide) (by decide) rfl rfl,gX]
     simp [Bool.and_assoc]
    refine Ev.d (fun e=>?_) (fun e13=>?_)
    ·subst e
     refine Ev.cast (Ev.andB (dS ..) fun _=>Ev.andB (b:=hd1 ks) (arms 32 1) fun ha=>?_) ?_
     ·match ks,ha,ex with
      | [],ha,_=>simp at ha
      | x :: r,_,ex=>exact Ev.opt (a:=x) rfl (Ev.ret (ex x List.mem_cons_self))
     rw [aR (r:=(2,32,[],[],0,0,[101,65])) rfl]
     simp only [eF,bZ,bEe,gX,← dY]
     simp [Bool.and_assoc]
    refine Ev.d (fun e=>?_) (fun e14=>Ev.pure' ?_)
    ·subst e
     refine Ev.cast (Ev.andB (dS ..) fun _=>Ev.andB (b:=hd2 ks) (arms 33 2) fun ha=>?_) ?_
     ·match ks,ha,ex,ty with
      | [],ha,_,_=>simp at ha
      | [x],ha,_,_=>simp at ha
      | x :: y :: r,_,ex,ty=>exact Ev.opt (a:=x) rfl (Ev.andB (ex x List.mem_cons_self) fun _=>Ev.opt (a:=y) rfl (Ev.ret (ty y (by simp))))
     rw [aR (r:=(2,33,[],[],0,0,[101,116,65])) rfl]
     simp only [eF,bZ,bCs,gX,← dY]
     simp [Bool.and_assoc]
    ·rw [nZ (by simp [show eZ 2=[20,21,22,23,24,25,26,27,28,29,30,31,32,33] from rfl,e1,e2,e3,e4,e5,e6,e7,e8,e9,e10,e11,e12,e13,e14])]
   ·rw [bFQ]
    exact Ev.step (fun k=>by rw [tY]) (Ev.andD fun _=>Ev.andB (dS ..) fun _=>Ev.andB (hU nm) fun _=>Ev.andB (hU mk) fun _=>Ev.ret k6)
end Go.Proofs.YtjhfgiieicloeaaGreatDoor

/- Shapes, part 5: the program's signatures, modules, declarations, programs are the table's. -/
namespace Go.Proofs.YtjhfgiieicloeaaGreatDoor
open Go Go.Am Go.Sx

theorem bJg (l:List Tr):dH isT [115,116] l=k2S (isT 4) (isT 1) l:=xG (by decide) (by decide) (by decide) (by decide) (by decide) (by decide) rfl rfl l
theorem bGL (l:List Tr):dH isT [116] l=k1S (isT 1) l:=aBd (by decide) (by decide) (by decide) rfl l
theorem bJV (l:List Tr):dH isT [101] l=k1S (isT 2) l:=aBd (by decide) (by decide) (by decide) rfl l
theorem bIX (l:List Tr):dH isT [109] l=k1S (isT 3) l:=aBd (by decide) (by decide) (by decide) rfl l
theorem bJb (l:List Tr):dH isT [115] l=k1S (isT 4) l:=aBd (by decide) (by decide) (by decide) rfl l
theorem bJm (l:List Tr):dH isT [109,115] l=k2S (isT 3) (isT 4) l:=xG (by decide) (by decide) (by decide) (by decide) (by decide) (by decide) rfl rfl l
theorem bIO (l:List Tr):dH isT [116,101] l=k2S (isT 1) (isT 2) l:=xG (by decide) (by decide) (by decide) (by decide) (by decide) (by decide) rfl rfl l
theorem k_C (l:List Tr):dH isT [67] l=(rM (isT 8) [] l && decide (0<l.length)):=rfl
theorem k_0 (l:List Tr):dH isT [] l=decide (l.length=0):=rfl
theorem k_p (l:List Tr):dH isT [42,112] l=l.all (isT 5):=aFS l fun x _=>by simp [aSk,show catS 112=5 from rfl]
def innerS (t:Tr):Bool:=isT 6 t && aSk 105 t
theorem k_i (l:List Tr):dH isT [42,105] l=l.all innerS:=aFS l fun x _=>by simp [innerS,show catS 105=6 from rfl]

theorem bC6:∀ t:Tr,Good t→Ev (fun K=>kC K t) (isT 4 t)∧Ev (fun K=>tQ K t) (isT 5 t)∧(∀ k n nm mk ks,t=.node k n nm mk ks→Ev (fun K=>oH K t) (k1S (isT 4) ks)):=Tr.ind
 (fun h=>by cases h)
 fun k n nm mk ks ih h=>by
  have h:=h
  have kt:=(aJj _ h).2
  cases h with
  | mk h1 h2 h3 h4 =>
   have ty:∀ x∈ks,Ev (fun K=>eP K x) (isT 1 x):=fun x hx=>(aJj x (h4 x hx)).1
   have sg:∀ x∈ks,Ev (fun K=>kC K x) (isT 4 x):=fun x hx=>(ih x hx (h4 x hx)).1
   have sp:∀ x∈ks,Ev (fun K=>tQ K x) (isT 5 x):=fun x hx=>(ih x hx (h4 x hx)).2.1
   have co:Ev (fun K=>rA K (.node k n nm mk ks)) (rM (isT 8) [] ks && decide (0<ks.length)):=aXq h3 h4 fun x hx=>(aJj x (h4 x hx)).2
   have k9:Ev (fun K=>oH K (.node k n nm mk ks)) (k1S (isT 4) ks):=Ev.step (fun k=>by rw [oH]) (bBv sg)
   have k10:Ev (fun K=>uR K (.node k n nm mk ks)) (k2S (isT 4) (isT 1) ks):=Ev.step (fun k=>by rw [uR]) (aZa sg ty)
   have eaS:Ev (fun K=>wY K (.node k n nm mk ks) 0) (ks.all (isT 5)):=by
    refine Ev.step (fun k=>by rw [wY]) ?_
    exact aSB (from':=0) (fun k l i=>by rw [qA]) h3 sp (by omega)
   refine ⟨?_,?_,fun k' n' nm' mk' ks' e=>by cases e; exact k9⟩
   ·refine Ev.step (fun k=>by rw [kC]) ?_
    refine Ev.d (fun e=>?_) (fun e1=>Ev.d (fun e=>?_) (fun e2=>Ev.d (fun e=>?_) (fun e3=>Ev.pure' ?_)))
    ·subst e
     refine Ev.cast (Ev.andB (dS ..) fun _=>Ev.ret eaS) ?_
     rw [aR (r:=(4,50,[],[],0,0,[42,112])) rfl]
     simp only [eF,bZ,k_p,gX,← dY]
     simp [Bool.and_assoc]
    ·subst e
     refine Ev.cast (Ev.andB (dS ..) fun _=>Ev.andB (hU nm) fun _=>Ev.ret (aGO ..)) ?_
     rw [aR (r:=(4,51,[110],[],0,0,[])) rfl]
     simp only [eF,bZ,rX,k_0,gX,← dY]
     cases mG nm <;> simp [Bool.and_assoc]
    ·subst e
     refine Ev.cast (Ev.andB (dS ..) fun _=>Ev.andB (aBe nm) fun _=>Ev.ret k10) ?_
     rw [aR (r:=(4,52,[108],[],0,0,[115,116])) rfl]
     simp only [eF,bZ,aGJ,bJg,gX,← dY]
     cases lgS nm <;> simp [Bool.and_assoc]
    ·rw [nZ (by simp [show eZ 4=[50,51,52] from rfl,e1,e2,e3])]
   ·refine Ev.step (fun k=>by rw [tQ]) ?_
    refine Ev.d (fun e=>?_) (fun e1=>Ev.d (fun e=>?_) (fun e2=>?_))
    ·subst e
     refine Ev.cast (Ev.andB (dS ..) fun _=>Ev.ret k9) ?_
     rw [aR (r:=(5,64,[],[],0,0,[115])) rfl]
     simp only [eF,bZ,bJb,gX,← dY]
     simp [Bool.and_assoc]
    ·subst e
     refine Ev.cast (Ev.andB (dS ..) fun _=>Ev.andB (aBe nm) fun _=>Ev.andB (aBe mk) fun _=>Ev.ret (aGO ..)) ?_
     rw [aR (r:=(5,65,[108],[108],0,0,[])) rfl]
     simp only [eF,aGJ,k_0,gX,← dY]
     cases lgS nm <;> cases lgS mk <;> simp [Bool.and_assoc]
    by_cases e3:k=60
    ·subst e3
     refine Ev.cast (Ev.andN (dS ..) fun _=>Ev.andN (hU nm) fun _=>Ev.dT rfl (Ev.ret kt)) ?_
     rw [aR (r:=(5,60,[110],[],0,0,[116])) rfl]
     simp only [eF,bZ,rX,bGL,gX,← dY]
     cases mG nm <;> simp [Bool.and_assoc]
    by_cases e4:k=61
    ·subst e4
     refine Ev.cast (Ev.andN (dS ..) fun _=>Ev.andN (hU nm) fun _=>Ev.dF (by decide) (Ev.dT rfl (Ev.orB (aGO ..) (Ev.ret kt)))) ?_
     rw [aKh (r:=(5,61,[110],[],0,0,[116])) (r':=(5,61,[110],[],0,0,[])) rfl]
     simp only [eF,bZ,rX,bGL,k_0,gX,← dY]
     cases mG nm <;> cases decide (mk=[]) <;> cases decide (0≤n) <;> cases decide (n≤0) <;> cases k1S (isT 1) ks <;> simp
    by_cases e5:k=62
    ·subst e5
     refine Ev.cast (Ev.andN (dS ..) fun _=>Ev.andN (hU nm) fun _=>Ev.dF (by decide) (Ev.dF (by decide) (Ev.dT rfl (Ev.ret co)))) ?_
     rw [aR (r:=(5,62,[110],[],0,0,[67])) rfl]
     simp only [eF,bZ,rX,k_C,gX,← dY]
     cases mG nm <;> simp [Bool.and_assoc]
    by_cases e6:k=63
    ·subst e6
     refine Ev.cast (Ev.andN (dS ..) fun _=>Ev.andN (hU nm) fun _=>Ev.dF (by decide) (Ev.dF (by decide) (Ev.dF (by decide) (Ev.dT rfl (Ev.ret k9))))) ?_
     rw [aR (r:=(5,63,[110],[],0,0,[115])) rfl]
     simp only [eF,bZ,rX,bJb,gX,← dY]
     cases mG nm <;> simp [Bool.and_assoc]
    refine Ev.cast (Ev.andN (dS ..) fun _=>Ev.andN (hU nm) fun _=>Ev.dF e3 (Ev.dF e4 (Ev.dF e5 (Ev.dF e6 Ev.pure)))) ?_
    rw [nZ (by simp [show eZ 5=[60,61,61,62,63,64,65] from rfl,e1,e2,e3,e4,e5,e6])]
    simp

theorem bHH:∀ t:Tr,Good t→Ev (fun K=>mU K t) (isT 3 t)∧Ev (fun K=>oO K t) (innerS t):=Tr.ind
 (fun h=>by cases h)
 fun k n nm mk ks ih h=>by
  have h:=h
  have kt:=(aJj _ h).2
  have ke:=(bA6 _ h).2.2 _ _ _ _ _ rfl
  cases h with
  | mk h1 h2 h3 h4 =>
   have md:∀ x∈ks,Ev (fun K=>mU K x) (isT 3 x):=fun x hx=>(ih x hx (h4 x hx)).1
   have inn:∀ x∈ks,Ev (fun K=>oO K x) (innerS x):=fun x hx=>(ih x hx (h4 x hx)).2
   have sg:∀ x∈ks,Ev (fun K=>kC K x) (isT 4 x):=fun x hx=>(bC6 x (h4 x hx)).1
   have co:Ev (fun K=>rA K (.node k n nm mk ks)) (rM (isT 8) [] ks && decide (0<ks.length)):=aXq h3 h4 fun x hx=>(aJj x (h4 x hx)).2
   have k7:Ev (fun K=>sX K (.node k n nm mk ks)) (k1S (isT 3) ks):=Ev.step (fun k=>by rw [sX]) (bBv md)
   have k8:Ev (fun K=>sZ K (.node k n nm mk ks)) (k2S (isT 3) (isT 4) ks):=Ev.step (fun k=>by rw [sZ]) (aZa md sg)
   have eaS:Ev (fun K=>xF K (.node k n nm mk ks) 0) (ks.all innerS):=by
    refine Ev.step (fun k=>by rw [xF]) ?_
    exact aSB (from':=0) (fun k l i=>by rw [qC]) h3 inn (by omega)
   refine ⟨?_,?_⟩
   ·refine Ev.step (fun k=>by rw [mU]) ?_
    refine Ev.d (fun e=>?_) (fun e1=>Ev.d (fun e=>?_) (fun e2=>Ev.d (fun e=>?_) (fun e3=>Ev.d (fun e=>?_) (fun e4=>Ev.pure' ?_))))
    ·subst e
     refine Ev.cast (Ev.andB (dS ..) fun _=>Ev.ret eaS) ?_
     rw [aR (r:=(3,40,[],[],0,0,[42,105])) rfl]
     simp only [eF,bZ,k_i,gX,← dY]
     simp [Bool.and_assoc]
    ·subst e
     refine Ev.cast (Ev.andB (dS ..) fun _=>Ev.andB (aBe nm) fun _=>Ev.ret (aGO ..)) ?_
     rw [aR (r:=(3,41,[108],[],0,0,[])) rfl]
     simp only [eF,bZ,aGJ,k_0,gX,← dY]
     cases lgS nm <;> simp [Bool.and_assoc]
    ·subst e
     refine Ev.cast (Ev.andB (dS ..) fun _=>Ev.andB (hU nm) fun _=>Ev.ret k7) ?_
     rw [aR (r:=(3,42,[110],[],0,0,[109])) rfl]
     simp only [eF,bZ,rX,bIX,gX,← dY]
     cases mG nm <;> simp [Bool.and_assoc]
    ·subst e
     refine Ev.cast (Ev.andB (b:=(decide (n=0) || decide (n=1)) && k2S (isT 3) (isT 4) ks) (dS ..) fun _=>Ev.d (fun h=>Ev.cast (Ev.ret k8) (by simp [h])) (fun h=>Ev.d (fun h'=>Ev.cast (Ev.ret k8) (by simp [h'])) (fun h'=>Ev.pure' (by simp [h,h'])))) ?_
     rw [aR (r:=(3,43,[],[],0,1,[109,115])) rfl]
     simp only [eF,bZ,bJm,gX,← aYQ]
     simp [Bool.and_assoc]
    ·rw [nZ (by simp [show eZ 3=[40,41,42,43] from rfl,e1,e2,e3,e4])]
   ·refine Ev.step (fun k=>by rw [oO]) ?_
    unfold innerS
    by_cases e1:k=76
    ·subst e1
     refine Ev.cast (Ev.andN (dS ..) fun _=>Ev.dT rfl (Ev.andB (aBe nm) fun _=>Ev.ret (aGO ..))) ?_
     rw [aR (r:=(6,76,[108],[],0,0,[])) rfl,show aSk 105 (.node 76 n nm mk ks)=true from rfl]
     simp only [eF,bZ,aGJ,k_0,gX,← dY]
     cases lgS nm <;> simp [Bool.and_assoc]
    by_cases e2:k=77
    ·subst e2
     refine Ev.cast (Ev.andN (dS ..) fun _=>Ev.dF (by decide) (Ev.dT rfl (Ev.andB (aBe nm) fun _=>Ev.ret (aGO ..)))) ?_
     rw [aR (r:=(6,77,[108],[],0,0,[])) rfl,show aSk 105 (.node 77 n nm mk ks)=true from rfl]
     simp only [eF,bZ,aGJ,k_0,gX,← dY]
     cases lgS nm <;> simp [Bool.and_assoc]
    by_cases e3:k=70
    ·subst e3
     have c0:Ev (fun K=>dJ K (.node 70 n nm mk ks)) (mG nm && (k1S (isT 2) ks || k2S (isT 1) (isT 2) ks)):=by
      refine Ev.step (fun k=>by rw [dJ]) ?_
      exact Ev.andN (hU nm) fun _=>Ev.dT rfl (Ev.orB ke.1 (Ev.ret ke.2))
     refine Ev.cast (Ev.andN (dS ..) fun _=>Ev.dF (by decide) (Ev.dF (by decide) c0)) ?_
     rw [aKh (r:=(6,70,[110],[],0,0,[101])) (r':=(6,70,[110],[],0,0,[116,101])) rfl,show aSk 105 (.node 70 n nm mk ks)=true from rfl]
     simp only [eF,bZ,rX,bJV,bIO,gX,← dY]
     cases mG nm <;> cases decide (mk=[]) <;> cases decide (0≤n) <;> cases decide (n≤0) <;> cases k1S (isT 2) ks <;> simp
    by_cases e4:k=71
    ·subst e4
     have c0:Ev (fun K=>dJ K (.node 71 n nm mk ks)) (mG nm && (k1S (isT 1) ks)):=by
      refine Ev.step (fun k=>by rw [dJ]) ?_
      exact Ev.andN (hU nm) fun _=>Ev.dF (by decide) (Ev.dT rfl (Ev.ret kt))
     refine Ev.cast (Ev.andN (dS ..) fun _=>Ev.dF (by decide) (Ev.dF (by decide) c0)) ?_
     rw [aR (r:=(6,71,[110],[],0,0,[116])) rfl,show aSk 105 (.node 71 n nm mk ks)=true from rfl]
     simp only [eF,bZ,rX,bGL,gX,← dY]
     cases mG nm <;> simp [Bool.and_assoc]
    by_cases e5:k=72
    ·subst e5
     have c0:Ev (fun K=>dJ K (.node 72 n nm mk ks)) (mG nm && (rM (isT 8) [] ks && decide (0<ks.length))):=by
      refine Ev.step (fun k=>by rw [dJ]) ?_
      exact Ev.andN (hU nm) fun _=>Ev.dF (by decide) (Ev.dF (by decide) (Ev.dT rfl (Ev.ret co)))
     refine Ev.cast (Ev.andN (dS ..) fun _=>Ev.dF (by decide) (Ev.dF (by decide) c0)) ?_
     rw [aR (r:=(6,72,[110],[],0,0,[67])) rfl,show aSk 105 (.node 72 n nm mk ks)=true from rfl]
     simp only [eF,bZ,rX,k_C,gX,← dY]
     cases mG nm <;> simp [Bool.and_assoc]
    by_cases e6:k=73
    ·subst e6
     have c0:Ev (fun K=>dJ K (.node 73 n nm mk ks)) (mG nm && (k1S (isT 3) ks)):=by
      refine Ev.step (fun k=>by rw [dJ]) ?_
      exact Ev.andN (hU nm) fun _=>Ev.dF (by decide) (Ev.dF (by decide) (Ev.dF (by decide) (Ev.dT rfl (Ev.ret k7))))
     refine Ev.cast (Ev.andN (dS ..) fun _=>Ev.dF (by decide) (Ev.dF (by decide) c0)) ?_
     rw [aR (r:=(6,73,[110],[],0,0,[109])) rfl,show aSk 105 (.node 73 n nm mk ks)=true from rfl]
     simp only [eF,bZ,rX,bIX,gX,← dY]
     cases mG nm <;> simp [Bool.and_assoc]
    have c0:Ev (fun K=>dJ K (.node k n nm mk ks)) (mG nm && (false)):=by
     refine Ev.step (fun k=>by rw [dJ]) ?_
     exact Ev.andN (hU nm) fun _=>Ev.dF e3 (Ev.dF e4 (Ev.dF e5 (Ev.dF e6 Ev.pure)))
    refine Ev.cast (Ev.andN (dS ..) fun _=>Ev.dF e1 (Ev.dF e2 c0)) ?_
    by_cases e7:k=74
    ·subst e7; simp [aSk,kindOf]
    by_cases e8:k=75
    ·subst e8; simp [aSk,kindOf]
    rw [nZ (by simp [show eZ 6=[70,70,71,72,73,74,75,76,77] from rfl,e1,e2,e3,e4,e5,e6,e7,e8])]
    simp

end Go.Proofs.YtjhfgiieicloeaaGreatDoor

/- Shapes, part 5b: a look at a tree as a type, by both; opened trees. -/
namespace Go.Proofs.YtjhfgiieicloeaaGreatDoor
open Go Go.Am Go.Sx

theorem aQC:∀ t:Tr,Good t→sM t=true:=Tr.ind (fun h=>by cases h) fun k n nm mk ks ih h=>by
 cases h with
 | mk h1 h2 h3 h4=>rw [aFc,aHS]; exact fun x hx=>ih x hx (h4 x hx)
def aOO (t:Tr):Prop:=t.w≤1099511627776∧(sM t=true→Good t)
def chk (c:Int) (t:Tr):Int:=if (aJu t).2=0 then (if 60<rP t then 7 else if isT c t=true then 0 else 16) else (aJu t).2
theorem aQl {t:Tr} (h:(aJu t).2=0):sM t=true:=by
 unfold aJu at h
 by_cases hf:sM t=true
 ·exact hf
 ·rw [if_neg hf] at h; cases h
theorem aXj {f:Nat→Tr→Option Bool} {c:Int} {t:Tr} (h:aOO t) (hf:Good t→Ev (fun K=>f K t) (isT c t)) :
  Ev (fun K=>(rE K t).bind fun (_,v2)=>iteS (!decide (v2=0)) (some v2) ((jU K t).bind fun v3=>iteS (decide (60<v3)) (some (7:Int)) ((f K t).bind fun v4=>iteS (!v4) (some 16) (some 0)))) (chk c t):=by
 unfold chk
 have hp:=bFY t h.1
 have key:(aJu t).2=0→sM t=true:=aQl
 generalize aJu t=q at *
 obtain ⟨a,e⟩:=q
 refine Ev.bind hp ?_
 refine Ev.n (fun h0=>Ev.pure' ?_) (fun h0=>?_)
 ·rw [if_neg h0]
 ·rw [if_pos h0]
  refine Ev.bind (bFk t h.1) (Ev.d (fun h1=>Ev.pure' ?_) (fun h1=>?_))
  ·rw [if_pos (by omega)]
  ·rw [if_neg (by omega)]
   refine Ev.bind (hf (h.2 (key h0))) ?_
   cases isT c t
   ·exact Ev.isT rfl Ev.pure
   ·exact Ev.isF rfl Ev.pure
section
variable {t:Tr} (h:aOO t)
include h
theorem bBA:Ev (fun K=>aIN K t) (chk 1 t):=Ev.congr (f:=fun _K=>_) (Ev.ret (Ev.congr (f:=fun _K=>_) (aXj (f:=eP) h fun g=>(aJj t g).1) (fun _=>rfl))) (fun _=>rfl)
end

theorem aPY {c:Int} {t:Tr} (h1:sM t=true) (h2:oD t≤8192) (h3:rP t≤60):chk c t=if isT c t=true then 0 else 16:=by
 have e:aJu t=(pZ t 0,0):=by unfold aJu; rw [if_pos h1,if_neg (by omega)]
 unfold chk
 rw [e,if_pos rfl,if_neg (by omega)]
theorem bAd {p:List Cell} (hv:aTs p p.length) (hb:∀ c∈p,c.2.2.1.length≤1099511627776∧c.2.2.2.1.length≤1099511627776∧c.2.2.2.2.length≤1099511627776):∀ n i:Nat,i<n→i<p.length→Good ((iI p).getD i .nil):=by
 intro n
 induction n with
 | zero=>intro i h; omega
 | succ n ih =>
  intro i hi hl
  rw [aQP hl]
  obtain ⟨b1,b2,b3⟩:=hb _ (List.getElem_mem hl)
  refine .mk b1 b2 (by simpa using b3) fun x hx=>?_
  obtain ⟨k,hk,rfl⟩:=List.mem_map.1 hx
  have:=hv i hl hl k hk
  rw [aGC (by omega) (by omega)]
  exact ih _ (by omega) (by omega)
end Go.Proofs.YtjhfgiieicloeaaGreatDoor

/- Texts in signs; lists of one or two kids. -/
namespace Go.Proofs.YtjhfgiieicloeaaGreatDoor
open Go Go.Am Go.Sx
def par (b:Bool) (s:List UInt8):List UInt8:=if b=true then [40,32]++s++[32,41] else s
theorem tV (b:Bool) (s:List UInt8):(par b s).length≤s.length+4:=by
 unfold par; split <;> simp
theorem lG {s:List UInt8} (h:mG s=true):s.length≤32:=by
 unfold mG nmS at h
 simp only [Bool.and_eq_true,decide_eq_true_eq] at h
 exact h.1.2.1
theorem aIo {s:List UInt8} (h:lgS s=true):s.length≤128:=by
 unfold lgS at h
 simp only [Bool.and_eq_true,decide_eq_true_eq] at h
 exact h.1
theorem aLd {p q:Tr→Bool} {l:List Tr} (h:k2S p q l=true):∃ x y,l=[x,y]∧p x=true∧q y=true:=by
 match l,h with
 | [x,y],h=>exact ⟨x,y,rfl,by simpa [k2S] using h⟩
theorem aSQ {p:Tr→Bool} {l:List Tr} (h:k1S p l=true):∃ x,l=[x]∧p x=true:=by
 match l,h with
 | [x],h=>exact ⟨x,rfl,by simpa [k1S] using h⟩
theorem aEg {c:Int} {t:Tr} (h:isT c t=true):∃ k n nm mk ks,t=.node k n nm mk ks:=by
 cases t with
 | nil=>rw [aXJ] at h; cases h
 | node k n nm mk ks=>exact ⟨k,n,nm,mk,ks,rfl⟩
theorem bF6 {k n:Int} {nm mk:List UInt8} {ks:List Tr} (h:isT 1 (.node k n nm mk ks)=true):k=1∨k=2∨k=3∨k=4∨k=5∨k=6∨k=7:=by
 by_cases e:k∈eZ 1
 ·simpa [show eZ 1=[1,2,3,4,5,6,7] from rfl] using e
 ·rw [nZ e] at h; cases h
end Go.Proofs.YtjhfgiieicloeaaGreatDoor

/- A tree is the same as itself, the program says. -/
namespace Go.Proofs.YtjhfgiieicloeaaGreatDoor
open Go Go.Am Go.Sx
theorem aZ0 {p:List Tr} (hl:p.length≤1099511627776) (ih:∀ x∈p,Ev (fun K=>qZ K x x) true):∀ (m i:Nat),p.length=i+m→Ev (fun K=>fW K p p (i:Int)) true:=by
 intro m
 induction m with
 | zero =>
  intro i hi
  exact Ev.step (fun k=>by rw [fW]) (Ev.dF (by omega) Ev.pure)
 | succ m ihm =>
  intro i hi
  have hlt:i<p.length:=by omega
  refine Ev.step (fun k=>by rw [fW]) ?_
  refine Ev.dT (by omega) ?_
  refine Ev.opt (dX hlt) ?_
  refine Ev.opt (dX hlt) ?_
  refine Ev.bind (ih _ (List.getElem_mem hlt)) ?_
  refine Ev.isF rfl ?_
  rw [cX (by omega)]
  exact ihm (i+1) (by omega)
theorem aX8:∀ t:Tr,t.w≤1048576→Ev (fun K=>qZ K t t) true:=Tr.ind
 (fun _=>Ev.step (fun k=>by rw [qZ]) Ev.pure)
 fun k n nm mk ks ih h=>by
  rw [aJ] at h
  have hl:=aIW ks
  refine Ev.step (fun k=>by rw [qZ]) ?_
  refine Ev.dT rfl ?_
  refine Ev.dT rfl ?_
  refine Ev.dT rfl ?_
  refine Ev.dT rfl ?_
  refine Ev.bind (a:=true) ?_ Ev.pure
  refine Ev.step (fun k=>by rw [rZ]) ?_
  refine Ev.nF rfl ?_
  exact aZ0 (by omega) (fun x hx=>ih x hx (by have:=aBK hx; omega)) ks.length 0 (by omega)
end Go.Proofs.YtjhfgiieicloeaaGreatDoor

