/- Joined texts: X8, V6, V7, Y7c. -/
import Derived.Test.YtjhfgiieicloeaaGreatDoorGv
import Derived.Test.YtjhfgiieicloeaaGreatDoorGq
/- A type is written as its words. -/
namespace Go.Proofs.YtjhfgiieicloeaaGreatDoor
open Go Go.Am Go.Sx
def aAp (t:Tr) (level:Int):Bool:=(decide (kindOf t=5) && decide (0<level)) || (decide (kindOf t=6) && decide (1<level))
theorem bBC (t:Tr):aAp t 0=false:=by simp [aAp]
theorem aYx (b:Bool) (s:List UInt8) (hs:s.length≤1099511627776):Ev (fun K=>aAY K b s) (par b s):=by
 refine Ev.congr (f:=fun K=>_) ?_ (fun k=>by rw [aAY])
 unfold par
 cases b
 ·exact Ev.isF rfl Ev.pure
 ·exact Ev.isT rfl (Ev.opt (bM (by simp; omega)) (Ev.opt (bM (by simp; omega)) Ev.pure))
theorem aPn {w:List Wd} (h:w≠[]) (b:Bool):jn (wp b w)=par b (jn w):=by
 cases b with
 | false=>rfl
 | true =>
  show [40]++jt (w++[(3,[41])])=[40,32]++jn w++[32,41]
  rw [aAq,rO h]
  simp [jt]
theorem bAQ {w:List Wd} (h:w≠[]) (b:Bool):wp b w≠[]:=by
 cases b with
 | false=>exact h
 | true=>simp [wp]
theorem aWV (b:Bool) (w:List Wd):(wp b w).length≤w.length+2:=by
 cases b <;> simp [wp]
theorem bEw {w:List Wd} (h:∀ x∈w,Gd x) (b:Bool):∀ x∈wp b w,Gd x:=by
 cases b with
 | false=>exact h
 | true =>
  intro x hx
  rw [bFD] at hx
  simp only [List.mem_cons,List.mem_append,List.not_mem_nil,or_false] at hx
  rcases hx with rfl | hx | rfl
  ·exact .inr (by decide)
  ·exact h x hx
  ·exact .inr (by decide)
structure Bk (t:Tr) (w:List Wd):Prop where
 ne:w≠[]
 gd:∀ x∈w,Gd x
 len:(jn w).length≤200 * t.w
 cnt:w.length≤8 * t.w
 wr:∀ level:Int,Ev (fun K=>eO K t level) (jn (wp (aAp t level) w))
 p2:Pa2 t (wp (aAp t 2) w)
 p1:Pa1 t (wp (aAp t 1) w)
 p0:Pa0 t w
abbrev CW:=List UInt8×Tr×List Wd
def cTr (x:CW):Tr:=.node 8 0 x.1 [] [x.2.1]
def cW (x:CW):List Wd:=(1,x.1) :: (3,[111,102]) :: x.2.2
def csW:List CW→List Wd
 | []=>[]
 | [x]=>cW x
 | x :: y :: r=>cW x++(3,[124]) :: csW (y :: r)
def CB (x:CW):Prop:=mG x.1=true∧Bk x.2.1 x.2.2
theorem aUi (x y:CW) (r:List CW):csW (x :: y :: r)=cW x++(3,[124]) :: csW (y :: r):=rfl
theorem bDu (x:CW) (r:List CW):csW (x :: r)≠[]:=by cases r <;> simp [csW,cW]
theorem bEy:∀ l:List CW,(∀ x∈l,CB x)→∀ z∈csW l,Gd z
 | [],_,z,hz=>by simp [csW] at hz
 | [x],h,z,hz=>by
  obtain ⟨h1,h2⟩:=h x List.mem_cons_self
  simp only [csW,cW,List.mem_cons] at hz
  rcases hz with rfl | rfl | hz
  ·exact .inl ⟨rfl,.inr h1⟩
  ·exact .inr (by decide)
  ·exact h2.gd z hz
 | x :: y :: r,h,z,hz=>by
  obtain ⟨h1,h2⟩:=h x List.mem_cons_self
  rw [aUi] at hz
  simp only [cW,List.mem_append,List.mem_cons] at hz
  rcases hz with (rfl | rfl | hz) | rfl | hz
  ·exact .inl ⟨rfl,.inr h1⟩
  ·exact .inr (by decide)
  ·exact h2.gd z hz
  ·exact .inr (by decide)
  ·exact bEy (y :: r) (fun q hq=>h q (List.mem_cons_of_mem _ hq)) z hz
theorem aUx:∀ (x:CW) (r:List CW),(∀ y∈x :: r,CB y)→aMI ((x :: r).map cTr) (csW (x :: r))
 | x,[],h=>by
  obtain ⟨h1,h2⟩:=h x List.mem_cons_self
  exact .one h1 h2.p0
 | x,y :: r,h=>by
  obtain ⟨h1,h2⟩:=h x List.mem_cons_self
  exact .more h1 h2.p0 (aUx y r fun q hq=>h q (List.mem_cons_of_mem _ hq))
abbrev bar:List UInt8:=[32,124,32]
def cT (x:CW):List UInt8:=x.1++[32,111,102,32]++jn x.2.2
theorem bGb {x:CW} (h:CB x):jn (cW x)=cT x:=by
 show x.1++(32 :: ([111,102]++jt x.2.2))=x.1++[32,111,102,32]++jn x.2.2
 rw [rO h.2.ne]
 simp
theorem bIZ (x:CW):cW x≠[]:=by simp [cW]
theorem bCD:∀ (x:CW) (r:List CW),(∀ y∈x :: r,CB y)→jn (csW (x :: r))=cT x++Lib.joinTail bar (r.map cT)
 | x,[],h=>by
  show jn (cW x)=_
  rw [bGb (h x List.mem_cons_self)]; simp [Lib.joinTail]
 | x,y :: r,h=>by
  have ih:=bCD y r fun q hq=>h q (List.mem_cons_of_mem _ hq)
  rw [aUi,aKr (bIZ x),bGb (h x List.mem_cons_self)]
  show cT x++(32 :: ([124]++jt (csW (y :: r))))=_
  rw [rO (bDu y r),ih]
  simp [Lib.joinTail]
theorem bBl (x:CW) (r:List CW) (h:∀ y∈x :: r,CB y):jn (csW (x :: r))=Lib.join ((x :: r).map cT) bar:=by
 rw [bCD x r h,List.map_cons,Lib.join_cons]
theorem aZO {x:CW} (h:CB x):(cT x).length+3≤200 * (cTr x).w:=by
 have h1:=lG h.1
 have h2:=h.2.len
 unfold cTr cT
 rw [aJ,aD,aK]
 simp; omega
theorem aZo:∀ l:List CW,(∀ x∈l,CB x)→(Lib.joinTail bar (l.map cT)).length≤200 * wL (l.map cTr)
 | [],_=>by simp [Lib.joinTail]
 | x :: r,h=>by
  have h1:=aZO (h x List.mem_cons_self)
  have ih:=aZo r fun q hq=>h q (List.mem_cons_of_mem _ hq)
  rw [List.map_cons,List.map_cons,aD]
  have:Lib.joinTail bar (cT x :: r.map cT)=bar++cT x++Lib.joinTail bar (r.map cT):=by simp [Lib.joinTail]
  rw [this]
  simp only [List.length_append,List.length_cons,List.length_nil]
  omega
theorem bDd (x:CW) (r:List CW) (h:∀ y∈x :: r,CB y):(jn (csW (x :: r))).length≤200 * wL ((x :: r).map cTr):=by
 have h1:=aZO (h x List.mem_cons_self)
 have h2:=aZo r fun q hq=>h q (List.mem_cons_of_mem _ hq)
 rw [bCD x r h,List.map_cons,aD,List.length_append]
 omega
theorem bDP:∀ (x:CW) (r:List CW),(∀ y∈x :: r,CB y)→(csW (x :: r)).length≤8 * wL ((x :: r).map cTr)
 | x,[],h=>by
  have h1:=(h x List.mem_cons_self).2.cnt
  simp only [csW,cW,cTr,List.map_cons,List.map_nil,aD,aK,aJ,List.length_cons]
  omega
 | x,y :: r,h=>by
  have h1:=(h x List.mem_cons_self).2.cnt
  have ih:=bDP y r fun q hq=>h q (List.mem_cons_of_mem _ hq)
  have e:(cTr x).w=1+(x.2.1.w):=by unfold cTr; rw [aJ,aD,aK]; omega
  rw [aUi,List.map_cons,aD,e]
  simp only [cW,List.length_append,List.length_cons]
  omega
section
variable {k n:Int} {nm mk:List UInt8} {L:List CW} (hc:∀ x∈L,CB x) (hw:wL (L.map cTr)≤1048576) (hnm:nm.length≤32) (hj:(Lib.join (L.map cT) bar).length≤200 * wL (L.map cTr))
include hc hw hnm hj
theorem aX7:∀ (m i:Nat),L.length=i+m→Ev (fun K=>mQ K (.node k n nm mk (L.map cTr)) ((L.map cT).take i) (L.map cTr) (i:Int)) ([109,117,32]++nm++[32,123,32]++Lib.join (L.map cT) bar++[32,125]):=by
 have hl:=aIW (L.map cTr)
 rw [List.length_map] at hl
 intro m
 induction m with
 | zero =>
  intro i hi
  have hj':(Lib.join (L.map cT) [32,124,32]).length≤200 * wL (L.map cTr):=hj
  rw [List.take_of_length_le (by simp; omega)]
  refine Ev.step (fun k=>by rw [mQ]) ?_
  refine Ev.dF (by simp; omega) (Ev.opt (bM (by simp; omega)) (Ev.opt (bM (by simp; omega)) (Ev.bind (a:=Lib.join (L.map cT) bar) ⟨0,fun K _=>?_⟩ (Ev.opt (bM (by simp; omega)) (Ev.opt (bM (by simp; omega)) Ev.pure)))))
  show (if _ then _ else _)=_
  rw [if_pos ⟨by omega,by simp; omega⟩]
 | succ m ih =>
  intro i hi
  have hlt:i<L.length:=by omega
  have hlt1:i<(L.map cTr).length:=by simp; omega
  have hlt2:i<(L.map cT).length:=by simp; omega
  obtain ⟨e1,e2⟩:=hc L[i] (List.getElem_mem hlt)
  have hx:=aBK (List.getElem_mem hlt1)
  have el:=aZO (hc L[i] (List.getElem_mem hlt))
  have e3:=lG e1
  have e4:=e2.len
  have g1:(L.map cTr)[i]=.node 8 0 L[i].1 [] [L[i].2.1]:=by rw [List.getElem_map]; rfl
  have g2:(L.map cT)[i]=L[i].1++[32,111,102,32]++jn L[i].2.2:=by rw [List.getElem_map]; rfl
  rw [g1,aJ,aD,aK] at hx
  refine Ev.step (fun k=>by rw [mQ]) ?_
  refine Ev.dT (by omega) (Ev.opt (dX hlt1) ?_)
  rw [g1]
  have w0:=e2.wr 0
  rw [bBC,bCo] at w0
  refine Ev.opt (bM (by simp; omega)) (Ev.opt (a:=L[i].2.1) rfl (Ev.bind w0 (Ev.opt (bM (by simp; omega)) (Ev.opt (cM (by simp; omega)) ?_))))
  rw [cX (by omega)]
  have:=ih (i+1) (by omega)
  rw [oZ hlt2,g2] at this
  exact this
end
theorem aJg:∀ (l:List Tr) (s:List (List UInt8)),rM (isT 8) s l=true→(∀ k∈l,isT 8 k=true∧nameOf k∉s)∧(l.map nameOf).Nodup
 | [],_,_=>⟨fun _ h=>by simp at h,List.nodup_nil⟩
 | k :: ks,s,h=>by
  unfold rM at h
  simp only [Bool.and_eq_true,Bool.not_eq_true',decide_eq_false_iff_not] at h
  obtain ⟨h1,h2,h3⟩:=h
  obtain ⟨i1,i2⟩:=aJg ks _ h3
  refine ⟨fun x hx=>?_,?_⟩
  ·rcases List.mem_cons.1 hx with rfl | hx
   ·exact ⟨h1,h2⟩
   ·exact ⟨(i1 x hx).1,fun hm=>(i1 x hx).2 (List.mem_append_left _ hm)⟩
  ·rw [List.map_cons,List.nodup_cons]
   refine ⟨fun hm=>?_,i2⟩
   obtain ⟨x,hx,e⟩:=List.mem_map.1 hm
   exact (i1 x hx).2 (List.mem_append_right _ (by rw [e]; exact List.mem_singleton_self _))
theorem bAo (w:List Wd) {t:Tr} (h5:kindOf t≠5) (h6:kindOf t≠6) (lv:Int):wp (aAp t lv) w=w:=by
 have:aAp t lv=false:=by unfold aAp; rw [decide_eq_false h5,decide_eq_false h6]; rfl
 rw [this]; rfl
theorem aOF {t:Tr} {w:List Wd} (h5:kindOf t≠5) (h6:kindOf t≠6) (hne:w≠[]) (hg:∀ x∈w,Gd x) (hl:(jn w).length≤200 * t.w) (hcn:w.length≤8 * t.w) (hw:∀ level:Int,Ev (fun K=>eO K t level) (jn w)) (hp:Pa2 t w):Bk t w :=
 ⟨hne,hg,hl,hcn,fun lv=>by rw [bAo w h5 h6]; exact hw lv,by rw [bAo w h5 h6]; exact hp,by rw [bAo w h5 h6]; exact hp.to1,hp.to1.to0⟩
theorem bCW:∀ t:Tr,t.w≤1048576→(isT 1 t=true→∃ w,Bk t w)∧(∀ y∈(match t with | .nil=>[] | .node _ _ _ _ l=>l),isT 1 y=true→∃ w,Bk y w):=Tr.ind
 (fun _=>⟨fun h=>(by rw [aXJ] at h; cases h),fun y hy=>(by simp at hy)⟩)
 fun k n nm mk ks ih hw=>by
  rw [aJ] at hw
  have kid:∀ y∈ks,isT 1 y=true→∃ w,Bk y w:=fun y hy=>(ih y hy (by have:=aBK hy; omega)).1
  refine ⟨fun hi=>?_,kid⟩
  have zero:∀ {m:Int},(0:Int)≤m→m≤0→m=0:=fun h1 h2=>by omega
  rcases bF6 hi with rfl | rfl | rfl | rfl | rfl | rfl | rfl
  ·rw [aR (r:=(1,1,[],[],0,0,[])) rfl] at hi
   simp only [eF,bZ,dH,Bool.and_eq_true,decide_eq_true_eq,List.length_eq_zero_iff] at hi
   obtain ⟨rfl,rfl,z1,z2,rfl⟩:=hi
   obtain rfl:=zero z1 z2
   refine ⟨[(3,[105,110,116])],aOF (by decide) (by decide) (by simp) (fun x hx=>.inr (by rw [List.mem_singleton] at hx; subst hx; decide)) (by rw [aJ]; simp [jn,jt]; omega) (by rw [aJ]; simp; omega) (fun level=>?_) bGZ⟩
   refine Ev.step (fun k=>by rw [eO]) ?_
   exact Ev.dF (by decide) (Ev.dF (by decide) (Ev.dT rfl Ev.pure))
  ·rw [aR (r:=(1,2,[],[],0,0,[])) rfl] at hi
   simp only [eF,bZ,dH,Bool.and_eq_true,decide_eq_true_eq,List.length_eq_zero_iff] at hi
   obtain ⟨rfl,rfl,z1,z2,rfl⟩:=hi
   obtain rfl:=zero z1 z2
   refine ⟨[(3,[98,111,111,108])],aOF (by decide) (by decide) (by simp) (fun x hx=>.inr (by rw [List.mem_singleton] at hx; subst hx; decide)) (by rw [aJ]; simp [jn,jt]; omega) (by rw [aJ]; simp; omega) (fun level=>?_) bFB⟩
   refine Ev.step (fun k=>by rw [eO]) ?_
   exact Ev.dF (by decide) (Ev.dF (by decide) (Ev.dF (by decide) (Ev.dT rfl Ev.pure)))
  ·rw [aR (r:=(1,3,[],[],0,0,[])) rfl] at hi
   simp only [eF,bZ,dH,Bool.and_eq_true,decide_eq_true_eq,List.length_eq_zero_iff] at hi
   obtain ⟨rfl,rfl,z1,z2,rfl⟩:=hi
   obtain rfl:=zero z1 z2
   refine ⟨[(3,[117,110,105,116])],aOF (by decide) (by decide) (by simp) (fun x hx=>.inr (by rw [List.mem_singleton] at hx; subst hx; decide)) (by rw [aJ]; simp [jn,jt]; omega) (by rw [aJ]; simp; omega) (fun level=>?_) bE4⟩
   refine Ev.step (fun k=>by rw [eO]) ?_
   exact Ev.dF (by decide) (Ev.dF (by decide) (Ev.dF (by decide) (Ev.dF (by decide) (Ev.dT rfl Ev.pure))))
  ·rw [aR (r:=(1,4,[108],[],0,0,[])) rfl] at hi
   simp only [eF,bZ,aGJ,dH,Bool.and_eq_true,decide_eq_true_eq,List.length_eq_zero_iff] at hi
   obtain ⟨hl,rfl,z1,z2,rfl⟩:=hi
   obtain rfl:=zero z1 z2
   have hll:=aIo hl
   refine ⟨[(1,nm)],aOF (by simp [kindOf]) (by simp [kindOf]) (by simp) (fun x hx=>.inl (by rw [List.mem_singleton] at hx; subst hx; exact ⟨rfl,.inl hl⟩)) (by rw [aJ]; simp [jn,jt]; omega) (by rw [aJ]; simp; omega) (fun level=>?_) (bEX hl)⟩
   refine Ev.step (fun k=>by rw [eO]) ?_
   exact Ev.dF (by decide) (Ev.dF (by decide) (Ev.dF (by decide) (Ev.dF (by decide) (Ev.dF (by decide) (Ev.dF (by decide) (Ev.pure' (by simp [jn,jt])))))))
  ·rw [aR (r:=(1,5,[],[],0,0,[116,116])) rfl] at hi
   simp only [eF,bZ,Bool.and_eq_true,decide_eq_true_eq,xG (a:=116) (b:=116) (c:=1) (d:=1) (by decide) (by decide) (by decide) (by decide) (by decide) (by decide) rfl rfl] at hi
   obtain ⟨rfl,rfl,z1,z2,hk⟩:=hi
   obtain rfl:=zero z1 z2
   obtain ⟨x,y,rfl,hx,hy⟩:=aLd hk
   obtain ⟨wx,bx⟩:=kid x (by simp) hx
   obtain ⟨wy,bd⟩:=kid y (by simp) hy
   rw [aD,aD,aK] at hw
   have lx:=bx.len
   have ly:=bd.len
   have px:=tV (aAp x 1) (jn wx)
   have w1:=bx.wr 1
   have w2:=bd.wr 0
   rw [bBC,bCo] at w2
   rw [aPn bx.ne] at w1
   have hj:jn (wp (aAp x 1) wx++(3,[45,62]) :: wy)=par (aAp x 1) (jn wx)++[32,45,62,32]++jn wy:=by
    rw [aKr (bAQ bx.ne _),aPn bx.ne]
    show par (aAp x 1) (jn wx)++(32 :: ([45,62]++jt wy))=_
    rw [rO bd.ne]; simp
   have hp0:=bEj bx.p1 bd.p0
   have hne:wp (aAp x 1) wx++(3,[45,62]) :: wy≠[]:=by simp
   refine ⟨wp (aAp x 1) wx++(3,[45,62]) :: wy,hne,fun z hz=>?_,?_,?_,fun level=>?_,hp0.paren,hp0.paren.to1,hp0⟩
   ·rw [List.mem_append,List.mem_cons] at hz
    rcases hz with hz | rfl | hz
    ·exact bEw bx.gd _ z hz
    ·exact .inr (by decide)
    ·exact bd.gd z hz
   ·rw [hj,aJ,aD,aD,aK]; simp; omega
   ·have:=bx.cnt; have:=bd.cnt; have:=aWV (aAp x 1) wx; rw [aJ,aD,aD,aK]; simp; omega
   ·rw [aPn hne,hj]
    refine Ev.step (fun k=>by rw [eO]) ?_
    refine Ev.dT rfl (Ev.opt (a:=x) rfl (Ev.opt (a:=y) rfl (Ev.bind w1 (Ev.opt (bM (by simp; omega)) (Ev.bind w2 (Ev.opt (bM (by simp; omega)) (Ev.ret (Ev.cast (aYx _ _ (by simp; omega)) ?_))))))))
    simp [aAp,kindOf]
  ·rw [aR (r:=(1,6,[],[],0,0,[116,116])) rfl] at hi
   simp only [eF,bZ,Bool.and_eq_true,decide_eq_true_eq,xG (a:=116) (b:=116) (c:=1) (d:=1) (by decide) (by decide) (by decide) (by decide) (by decide) (by decide) rfl rfl] at hi
   obtain ⟨rfl,rfl,z1,z2,hk⟩:=hi
   obtain rfl:=zero z1 z2
   obtain ⟨x,y,rfl,hx,hy⟩:=aLd hk
   obtain ⟨wx,bx⟩:=kid x (by simp) hx
   obtain ⟨wy,bd⟩:=kid y (by simp) hy
   rw [aD,aD,aK] at hw
   have lx:=bx.len
   have ly:=bd.len
   have px:=tV (aAp x 2) (jn wx)
   have py:=tV (aAp y 1) (jn wy)
   have w1:=bx.wr 2
   have w2:=bd.wr 1
   rw [aPn bd.ne] at w2
   rw [aPn bx.ne] at w1
   have hj:jn (wp (aAp x 2) wx++(3,[42]) :: wp (aAp y 1) wy)=par (aAp x 2) (jn wx)++[32,42,32]++par (aAp y 1) (jn wy):=by
    rw [aKr (bAQ bx.ne _),aPn bx.ne]
    show par (aAp x 2) (jn wx)++(32 :: ([42]++jt (wp (aAp y 1) wy)))=_
    rw [rO (bAQ bd.ne _),aPn bd.ne]; simp
   have hp1:=bFX bx.p2 bd.p1
   have hne:wp (aAp x 2) wx++(3,[42]) :: wp (aAp y 1) wy≠[]:=by simp
   refine ⟨wp (aAp x 2) wx++(3,[42]) :: wp (aAp y 1) wy,hne,fun z hz=>?_,?_,?_,fun level=>?_,hp1.to0.paren,hp1,hp1.to0⟩
   ·rw [List.mem_append,List.mem_cons] at hz
    rcases hz with hz | rfl | hz
    ·exact bEw bx.gd _ z hz
    ·exact .inr (by decide)
    ·exact bEw bd.gd _ z hz
   ·rw [hj,aJ,aD,aD,aK]; simp; omega
   ·have:=bx.cnt; have:=bd.cnt; have:=aWV (aAp x 2) wx; have:=aWV (aAp y 1) wy; rw [aJ,aD,aD,aK]; simp; omega
   ·rw [aPn hne,hj]
    refine Ev.step (fun k=>by rw [eO]) ?_
    refine Ev.dF (by decide) (Ev.dT rfl (Ev.opt (a:=x) rfl (Ev.opt (a:=y) rfl (Ev.bind w1 (Ev.opt (bM (by simp; omega)) (Ev.bind w2 (Ev.opt (bM (by simp; omega)) (Ev.ret (Ev.cast (aYx _ _ (by simp; omega)) ?_)))))))))
    simp [aAp,kindOf]
  ·rw [aR (r:=(1,7,[110],[],0,0,[67])) rfl] at hi
   have e67:dH isT [67] ks=(rM (isT 8) [] ks && decide (0<ks.length)):=rfl
   simp only [eF,rX,bZ,Bool.and_eq_true,decide_eq_true_eq,e67] at hi
   obtain ⟨hn,rfl,z1,z2,hcg,hpos⟩:=hi
   obtain rfl:=zero z1 z2
   have hnl:=lG hn
   obtain ⟨hall,hnd⟩:=aJg ks [] hcg
   have hcs:∀ (l:List Tr),(∀ x∈l,x∈ks)→∃ L:List CW,l=L.map cTr∧∀ x∈L,CB x:=by
    intro l
    induction l with
    | nil=>intro _; exact ⟨[],rfl,fun x hx=>by simp at hx⟩
    | cons x l ihl =>
     intro hm
     obtain ⟨L,hL,hB⟩:=ihl fun z hz=>hm z (List.mem_cons_of_mem _ hz)
     have hxm:=hm x List.mem_cons_self
     have h8:=(hall x hxm).1
     obtain ⟨kx,nx,nmx,mkx,ksx,rfl⟩:=aEg h8
     rw [bAT] at h8
     simp only [gX,Bool.true_or,Bool.true_and,Bool.false_or,Bool.and_eq_true,decide_eq_true_eq] at h8
     obtain ⟨rfl,⟨rfl,rfl⟩,hck,hk1⟩:=h8
     obtain ⟨y,rfl,hy⟩:=aSQ hk1
     obtain ⟨w,bd⟩:=(ih _ hxm (by have:=aBK hxm; omega)).2 y (by simp) hy
     refine ⟨(nmx,y,w) :: L,by rw [List.map_cons,hL]; rfl,fun z hz=>?_⟩
     rcases List.mem_cons.1 hz with rfl | hz
     ·exact ⟨hck,bd⟩
     ·exact hB z hz
   obtain ⟨L,rfl,hB⟩:=hcs ks fun x hx=>hx
   cases L with
   | nil=>simp at hpos
   | cons c r =>
    have hlen:=bDd c r hB
    have hjj:=bBl c r hB
    have hjn:jn ((3,[109,117]) :: (1,nm) :: (3,[123]) :: (csW (c :: r)++[(3,[125])]))=[109,117,32]++nm++[32,123,32]++Lib.join ((c :: r).map cT) bar++[32,125]:=by
     show [109,117]++(32 :: (nm++(32 :: ([123]++jt (csW (c :: r)++[(3,[125])])))))=_
     rw [aAq,rO (bDu c r),hjj]
     simp [jt]
    refine ⟨(3,[109,117]) :: (1,nm) :: (3,[123]) :: (csW (c :: r)++[(3,[125])]),aOF (by simp [kindOf]) (by simp [kindOf]) (by simp) (fun z hz=>?_) ?_ ?_ (fun level=>?_) (bIG hn (aUx c r hB) hnd)⟩
    ·simp only [List.mem_cons,List.mem_append,List.not_mem_nil,or_false] at hz
     rcases hz with rfl | rfl | rfl | hz | rfl
     ·exact .inr (by decide)
     ·exact .inl ⟨rfl,.inr hn⟩
     ·exact .inr (by decide)
     ·exact bEy _ hB z hz
     ·exact .inr (by decide)
    ·rw [hjn,aJ,← hjj]; simp only [List.length_append,List.length_cons,List.length_nil]; omega
    ·have:=bDP c r hB; rw [aJ]; simp only [List.length_append,List.length_cons,List.length_nil]; omega
    ·rw [hjn]
     refine Ev.step (fun k=>by rw [eO]) ?_
     refine Ev.dF (by decide) (Ev.dF (by decide) (Ev.dF (by decide) (Ev.dF (by decide) (Ev.dF (by decide) (Ev.dT rfl ?_)))))
     exact aX7 hB (by omega) hnl (by rw [← hjj]; exact hlen) (c :: r).length 0 (by omega)
end Go.Proofs.YtjhfgiieicloeaaGreatDoor

/- Expressions that have a form: their words, written and parsed. -/
namespace Go.Proofs.YtjhfgiieicloeaaGreatDoor
open Go Go.Am Go.Sx
def tl:Tr→Nat
 | .nil=>0
 | .node k _ nm mk ks=>if k≤8 then 200 * (1+wL ks) else 30+(nm.length+mk.length)+go ks
where go:List Tr→Nat
 | []=>0
 | x :: r=>tl x+go r
abbrev tlL:=tl.go
def wc:Tr→Nat
 | .nil=>0
 | .node k _ _ _ ks=>if k≤8 then 8 * (1+wL ks) else (if k≤23 then 2 else 8)+go ks
where go:List Tr→Nat
 | []=>0
 | x :: r=>wc x+go r
abbrev wcL:=wc.go
theorem dZ:tlL []=0:=by simp [tl.go]
theorem aV (x:Tr) (r:List Tr):tlL (x :: r)=tl x+tlL r:=by simp [tl.go]
theorem hY:wcL []=0:=by simp [wc.go]
theorem bU (x:Tr) (r:List Tr):wcL (x :: r)=wc x+wcL r:=by simp [wc.go]
theorem dG {k n:Int} {nm mk:List UInt8} {ks:List Tr} (h:¬ k≤8):tl (.node k n nm mk ks)=30+(nm.length+mk.length)+tlL ks:=by rw [tl,if_neg h]
theorem aGq {k n:Int} {nm mk:List UInt8} {ks:List Tr} (h:¬ k≤8) (h2:k≤23):wc (.node k n nm mk ks)=2+wcL ks:=by rw [wc,if_neg h,if_pos h2]
theorem lH {k n:Int} {nm mk:List UInt8} {ks:List Tr} (h:¬ k≤8) (h2:¬ k≤23):wc (.node k n nm mk ks)=8+wcL ks:=by rw [wc,if_neg h,if_neg h2]
theorem bBj {t:Tr} (h:isT 1 t=true):∃ k n nm mk ks,t=.node k n nm mk ks∧k≤8:=by
 obtain ⟨k,n,nm,mk,ks,rfl⟩:=aEg h
 refine ⟨k,n,nm,mk,ks,rfl,?_⟩
 rcases bF6 h with rfl | rfl | rfl | rfl | rfl | rfl | rfl <;> decide
theorem aYA {t:Tr} (h:isT 1 t=true):tl t=200 * t.w:=by
 obtain ⟨k,n,nm,mk,ks,rfl,hk⟩:=bBj h
 rw [tl,if_pos hk,aJ]
theorem bDt {t:Tr} (h:isT 1 t=true):wc t=8 * t.w:=by
 obtain ⟨k,n,nm,mk,ks,rfl,hk⟩:=bBj h
 rw [wc,if_pos hk,aJ]
theorem aNE {x:Wd} (h:x∈([(3,[102,110]),(3,[108,101,116]),(3,[105,110]),(3,[101,110,100]),(3,[105,102]),(3,[116,104,101,110]),(3,[101,108,115,101]),(3,[99,97,115,101]),(3,[111,102]),(3,[102,111,108,100]),(3,[116,111]),(3,[116,114,117,101]),(3,[102,97,108,115,101])]:List Wd)):Tk x:=by
 simp only [List.mem_cons,List.not_mem_nil,or_false] at h
 rcases h with rfl | rfl | rfl | rfl | rfl | rfl | rfl | rfl | rfl | rfl | rfl | rfl | rfl <;> exact aOj (by decide) (by decide) (by decide) (by decide)
theorem sK {x:Wd} (h:x∈([(3,[40]),(3,[41]),(3,[58]),(3,[61,62]),(3,[61]),(3,[44]),(3,[43]),(3,[45]),(3,[42]),(3,[60]),(3,[124]),(3,[35,49]),(3,[35,50])]:List Wd)):Tk x:=by
 have sg:∀ {b:UInt8} {w:List UInt8},(b.toNat<127∧33≤b.toNat∧b.toNat≠126∧cls ((b.toNat:Nat):Int)=0)→(∀ c∈w,32≤c.toNat∧c.toNat<127)→w.length≤10 →
   (fnd aZp (b :: w)=(3,b :: w,0,0,(((b :: w).length:Nat):Int),true)∧List.isPrefixOf [40,42] (b :: w)=false) →
   (∀ t,fnd aZp (b :: w++32 :: t)=(3,b :: w,0,0,(((b :: w).length:Nat):Int),true)∧List.isPrefixOf [40,42] (b :: w++32 :: t)=false)→Tk (3,b :: w):=fun h1 h2 h3 h4 h5 =>
  aXs h1 h2 h3 fun tail ht=>by
   rcases ht with rfl | ⟨t,rfl⟩
   ·rw [List.append_nil]; exact h4
   ·exact h5 t
 simp only [List.mem_cons,List.not_mem_nil,or_false] at h
 rcases h with rfl | rfl | rfl | rfl | rfl | rfl | rfl | rfl | rfl | rfl | rfl | rfl | rfl <;> exact sg (by decide) (by decide) (by decide) ⟨rfl,rfl⟩ fun t=>⟨rfl,rfl⟩
theorem aA5 {s:List UInt8} (h:mG s=true):Tk (1,s):=aC0 (bDl h)
structure Bx (t:Tr) (w:List Wd):Prop where
 ne:w≠[]
 tk:∀ x∈w,Tk x
 len:(jn w).length+8≤tl t
 cnt:w.length+(if lvE t=5 then 0 else 2)≤wc t
 pw:PW t (jn w)
 h41:kW w [41]=false
 st:0<lvE t→sW w=true
 a0:A0 t w
 a1:1≤lvE t→A1 t w
 a2:2≤lvE t→A2 t w
 a3:3≤lvE t→A3 t w
 a4:4≤lvE t→A4 t w
 a5:5≤lvE t→A5 t w
def wr (lv:Int) (t:Tr) (w:List Wd):List Wd:=wp (decide (lvE t<lv)) w
section
variable {t:Tr} {w:List Wd} (h:Bx t w)
include h
theorem Bx.w_ne (lv:Int):wr lv t w≠[]:=bAQ h.ne _
theorem Bx.w_jn (lv:Int):jn (wr lv t w)=par (decide (lvE t<lv)) (jn w):=aPn h.ne _
theorem Bx.w_tk (lv:Int):∀ x∈wr lv t w,Tk x:=by
 intro x hx
 unfold wr at hx
 cases hb:decide (lvE t<lv) with
 | false=>rw [hb] at hx; exact h.tk x hx
 | true =>
  rw [hb,bFD] at hx
  simp only [List.mem_cons,List.mem_append,List.not_mem_nil,or_false] at hx
  rcases hx with rfl | hx | rfl
  ·exact sK (by decide)
  ·exact h.tk x hx
  ·exact sK (by decide)
theorem Bx.w_cnt {lv:Int} (hl:lv≤5):(wr lv t w).length≤wc t:=by
 have:=h.cnt
 unfold wr
 by_cases hb:lvE t<lv
 ·rw [decide_eq_true hb]
  have:=aWV true w
  rw [if_neg (by omega)] at *
  omega
 ·rw [decide_eq_false hb,bCo]; omega
theorem Bx.w_st {lv:Int} (hl:0<lv):sW (wr lv t w)=true:=by
 unfold wr
 by_cases hb:lvE t<lv
 ·rw [decide_eq_true hb,bFD,sW3]; decide
 ·rw [decide_eq_false hb,bCo]; exact h.st (by omega)
theorem Bx.par5:A5 t (wp true w):=h.a0.paren h.ne h.h41
theorem Bx.w5:A5 t (wr 5 t w):=by
 unfold wr
 by_cases hb:lvE t<5
 ·rw [decide_eq_true hb]; exact h.par5
 ·rw [decide_eq_false hb]; exact h.a5 (by omega)
theorem Bx.w4:A4 t (wr 4 t w):=by
 unfold wr
 by_cases hb:lvE t<4
 ·rw [decide_eq_true hb]; exact A5.to4 (by simp [wp]) h.par5
 ·rw [decide_eq_false hb]; exact h.a4 (by omega)
theorem Bx.w3:A3 t (wr 3 t w):=by
 unfold wr
 by_cases hb:lvE t<3
 ·rw [decide_eq_true hb]; exact A4.to3 (by simp [wp]) (A5.to4 (by simp [wp]) h.par5)
 ·rw [decide_eq_false hb]; exact h.a3 (by omega)
theorem Bx.w2:A2 t (wr 2 t w):=by
 unfold wr
 by_cases hb:lvE t<2
 ·rw [decide_eq_true hb]; exact A3.to2 (by simp [wp]) (A4.to3 (by simp [wp]) (A5.to4 (by simp [wp]) h.par5))
 ·rw [decide_eq_false hb]; exact h.a2 (by omega)
end
/-! ### out of a rule's answer all looser ones -/
section
variable {t:Tr} {w:List Wd} (ne:w≠[]) (tk:∀ x∈w,Tk x) (len:(jn w).length+8≤tl t) (pw:PW t (jn w)) (st:sW w=true)
include ne tk len pw st
theorem bDY:kW w [41]=false:=by
 have:=tk; have:=len; have:=pw; have:=ne
 exact bC3 st (by decide)
theorem bx5 (hl:lvE t=5) (cnt:w.length≤wc t) (h:A5 t w):Bx t w:=by
 have h4:=A5.to4 ne h
 have h3:=A4.to3 ne h4
 have h2:=A3.to2 ne h3
 have h1:=A2.to1 ne h2
 exact ⟨ne,tk,len,by rw [if_pos hl]; omega,pw,bDY ne tk len pw st,fun _=>st,A1.to0 ne h1 st,fun _=>h1,fun _=>h2,fun _=>h3,fun _=>h4,fun _=>h⟩
theorem bx4 (hl:lvE t=4) (cnt:w.length+2≤wc t) (h4:A4 t w):Bx t w:=by
 have h3:=A4.to3 ne h4
 have h2:=A3.to2 ne h3
 have h1:=A2.to1 ne h2
 exact ⟨ne,tk,len,by rw [if_neg (by omega)]; omega,pw,bDY ne tk len pw st,fun _=>st,A1.to0 ne h1 st,fun _=>h1,fun _=>h2,fun _=>h3,fun _=>h4,fun hh=>by omega⟩
theorem bx3 (hl:lvE t=3) (cnt:w.length+2≤wc t) (h3:A3 t w):Bx t w:=by
 have h2:=A3.to2 ne h3
 have h1:=A2.to1 ne h2
 exact ⟨ne,tk,len,by rw [if_neg (by omega)]; omega,pw,bDY ne tk len pw st,fun _=>st,A1.to0 ne h1 st,fun _=>h1,fun _=>h2,fun _=>h3,fun hh=>by omega,fun hh=>by omega⟩
theorem bx2 (hl:lvE t=2) (cnt:w.length+2≤wc t) (h2:A2 t w):Bx t w:=by
 have h1:=A2.to1 ne h2
 exact ⟨ne,tk,len,by rw [if_neg (by omega)]; omega,pw,bDY ne tk len pw st,fun _=>st,A1.to0 ne h1 st,fun _=>h1,fun _=>h2,fun hh=>by omega,fun hh=>by omega,fun hh=>by omega⟩
theorem bx1 (hl:lvE t=1) (cnt:w.length+2≤wc t) (h1:A1 t w):Bx t w :=
 ⟨ne,tk,len,by rw [if_neg (by omega)]; omega,pw,bDY ne tk len pw st,fun _=>st,A1.to0 ne h1 st,fun _=>h1,fun hh=>by omega,fun hh=>by omega,fun hh=>by omega,fun hh=>by omega⟩
end
theorem bx0 {t:Tr} {w:List Wd} (ne:w≠[]) (tk:∀ x∈w,Tk x) (len:(jn w).length+8≤tl t) (pw:PW t (jn w)) (h41:kW w [41]=false) (hl:lvE t=0) (cnt:w.length+2≤wc t) (h0:A0 t w):Bx t w :=
 ⟨ne,tk,len,by rw [if_neg (by omega)]; omega,pw,h41,fun hh=>by omega,h0,fun hh=>by omega,fun hh=>by omega,fun hh=>by omega,fun hh=>by omega,fun hh=>by omega⟩
theorem PW.cast {t:Tr} {v v':List UInt8} (h:PW t v) (e:v=v'):PW t v':=e ▸ h
theorem qX (x:Wd) (r:List Wd):jt (x :: r)=32 :: (x.2++jt r):=rfl
theorem aEm (x:Wd) (r:List Wd):jn (x :: r)=x.2++jt r:=rfl
theorem bDc {y:Tr} (hg:Good y) (hw:y.w≤1048576) (hs:oD y≤8192) (hd:rP y≤60) (hi:isT 1 y=true):∃ w,Bk y w∧Ev (fun K=>mB K y) (jn w):=by
 obtain ⟨w,b⟩:=(bCW y hw).1 hi
 refine ⟨w,b,?_⟩
 have hf:aOO y:=⟨by omega,fun _=>hg⟩
 have h0:chk 1 y=0:=by rw [aPY (aQC y hg) hs hd,if_pos hi]
 have v0:=b.wr 0
 rw [bBC,bCo] at v0
 have:Ev (fun K=>aA2 K y) (jn w,0):=Ev.congr (f:=fun K=>_) (Ev.bind (bBA hf) (Ev.nF h0 (Ev.bind v0 (Ev.pure' rfl)))) (fun _=>rfl)
 refine Ev.congr (f:=fun K=>_) ?_ (fun k=>by rw [mB])
 exact Ev.bind this Ev.pure
end Go.Proofs.YtjhfgiieicloeaaGreatDoor

/- Every expression that has a form has words. -/
namespace Go.Proofs.YtjhfgiieicloeaaGreatDoor
open Go Go.Am Go.Sx
def toA (a:AX):AT:=(a.1,a.2.1,a.2.2.1,jn a.2.2.2)
def XB (a:AX):Prop:=mG a.1=true∧mG a.2.1=true∧Bx a.2.2.1 a.2.2.2
theorem bF4 {a:AX} (h:a.2.2.2≠[]):jn (xW a)=aTx (toA a):=by
 show a.1++32 :: (a.2.1++32 :: ([61,62]++jt a.2.2.2))=a.1++[32]++a.2.1++[32,61,62,32]++jn a.2.2.2
 rw [rO h]; simp
theorem bC5:∀ r:List AX,r≠[]→(∀ a∈r,XB a)→jn (xsW r)=aEK (r.map toA)
 | [],h,_=>absurd rfl h
 | [a],_,h=>by
  obtain ⟨_,_,hb⟩:=h a List.mem_cons_self
  show jn (xW a++[(3,[101,110,100])])=Lib.join [aTx (toA a)] aU6++[32,101,110,100]
  rw [aKr (by simp [xW]),bF4 hb.ne,Lib.join_one]; rfl
 | a :: b :: r,_,h=>by
  obtain ⟨_,_,hb⟩:=h a List.mem_cons_self
  have ih:=bC5 (b :: r) (by simp) fun x hx=>h x (List.mem_cons_of_mem _ hx)
  have hne:xsW (b :: r)≠[]:=by cases r <;> simp [xsW,xW]
  show jn (xW a++(3,[124]) :: xsW (b :: r))=aEK (toA a :: toA b :: r.map toA)
  rw [aKr (by simp [xW]),bF4 hb.ne,qX,rO hne,ih]
  unfold aEK
  simp [Lib.join_cons,Lib.joinTail]
theorem bGr (r:List AX):xsW r≠[]:=by
 match r with
 | []=>simp [xsW]
 | [a]=>simp [xsW,xW]
 | a :: b :: r=>simp [xsW,xW]
theorem bCR:∀ r:List AX,(∀ a∈r,XB a)→∀ x∈xsW r,Tk x
 | [],_,x,hx=>by simp only [xsW,List.mem_singleton] at hx; subst hx; exact aNE (by decide)
 | [a],h,x,hx=>by
  obtain ⟨h1,h2,hb⟩:=h a List.mem_cons_self
  simp only [xsW,xW,List.mem_append,List.mem_cons,List.not_mem_nil,or_false] at hx
  rcases hx with (rfl | rfl | rfl | hx) | rfl
  ·exact aA5 h1
  ·exact aA5 h2
  ·exact sK (by decide)
  ·exact hb.tk x hx
  ·exact aNE (by decide)
 | a :: b :: r,h,x,hx=>by
  obtain ⟨h1,h2,hb⟩:=h a List.mem_cons_self
  have e:xsW (a :: b :: r)=xW a++(3,[124]) :: xsW (b :: r):=rfl
  rw [e] at hx
  simp only [xW,List.mem_append,List.mem_cons] at hx
  rcases hx with (rfl | rfl | rfl | hx) | rfl | hx
  ·exact aA5 h1
  ·exact aA5 h2
  ·exact sK (by decide)
  ·exact hb.tk x hx
  ·exact sK (by decide)
  ·exact bCR (b :: r) (fun x hx=>h x (List.mem_cons_of_mem _ hx)) x hx
theorem aXz (a:AX):tl (xTr a)=30+(a.1.length+a.2.1.length)+tl a.2.2.1:=by unfold xTr; rw [dG (by decide),aV,dZ]; omega
theorem bDX (a:AX):wc (xTr a)=8+wc a.2.2.1:=by unfold xTr; rw [lH (by decide) (by decide),bU,hY]; omega
theorem aZQ:∀ r:List AX,r≠[]→(∀ a∈r,XB a)→(Lib.join ((r.map toA).map aTx) aU6).length+4≤tlL (r.map xTr)∧(xsW r).length≤wcL (r.map xTr)
 | [],h,_=>absurd rfl h
 | [a],_,h=>by
  obtain ⟨_,_,hb⟩:=h a List.mem_cons_self
  have h1:=hb.len
  have h2:=hb.cnt
  rw [List.map_cons,List.map_cons,List.map_nil,List.map_nil,Lib.join_one,List.map_cons,List.map_nil,aV,dZ,bU,hY,aXz,bDX]
  simp only [aTx,toA,xsW,xW,List.length_append,List.length_cons,List.length_nil]
  omega
 | a :: b :: r,_,h=>by
  obtain ⟨_,_,hb⟩:=h a List.mem_cons_self
  have h1:=hb.len
  have h2:=hb.cnt
  obtain ⟨i1,i2⟩:=aZQ (b :: r) (by simp) fun x hx=>h x (List.mem_cons_of_mem _ hx)
  have e:xsW (a :: b :: r)=xW a++(3,[124]) :: xsW (b :: r):=rfl
  have e2:Lib.join (((a :: b :: r).map toA).map aTx) aU6=aTx (toA a)++aU6++Lib.join (((b :: r).map toA).map aTx) aU6:=by simp [Lib.join_cons,Lib.joinTail]
  rw [e,e2,show (a :: b :: r).map xTr=xTr a :: (b :: r).map xTr from rfl,aV,bU,aXz,bDX]
  simp only [aTx,toA,xW,List.length_append,List.length_cons,List.length_nil] at *
  omega
theorem bAj:∀ r:List Tr,(∀ y∈r,isT 9 y=true)→(∀ y∈r,∀ e∈(match y with | .nil=>[] | .node _ _ _ _ l=>l),isT 2 e=true→∃ w,Bx e w)→∃ L:List AX,r=L.map xTr∧∀ a∈L,XB a
 | [],_,_=>⟨[],rfl,fun a h=>by cases h⟩
 | y :: r,h,hk=>by
  obtain ⟨L,rfl,hL⟩:=bAj r (fun x hx=>h x (List.mem_cons_of_mem _ hx)) (fun x hx=>hk x (List.mem_cons_of_mem _ hx))
  obtain ⟨c,x,e,rfl,hc,hx,he⟩:=aWY (h _ List.mem_cons_self)
  obtain ⟨w,hw⟩:=hk _ List.mem_cons_self e (by simp) he
  refine ⟨(c,x,e,w) :: L,rfl,fun a ha=>?_⟩
  rcases List.mem_cons.1 ha with rfl | ha
  ·exact ⟨hc,hx,hw⟩
  ·exact hL a ha
theorem aID:∀ {l:List Tr} {x:Tr},x∈l→tl x≤tlL l
 | y :: l,x,h=>by
  rw [aV]
  rcases List.mem_cons.1 h with rfl | hx
  ·omega
  ·have:=aID hx; omega
theorem bD9 {a b:List Wd} (h:a≠[]) (hs:sW a=true):sW (a++b)=true:=by rw [bC0 h]; exact hs
theorem bF2 {t:Tr} {w:List Wd} (b:Bk t w):∀ x∈w,Tk x:=fun x hx=>(b.gd x hx).tk
theorem zU {a b:List Wd} (h1:∀ x∈a,Tk x) (h2:∀ x∈b,Tk x):∀ x∈a++b,Tk x:=fun x hx=>(List.mem_append.1 hx).elim (h1 x) (h2 x)
theorem mem_cons {a:Wd} {b:List Wd} (h1:Tk a) (h2:∀ x∈b,Tk x):∀ x∈a :: b,Tk x:=fun x hx=>(List.mem_cons.1 hx).elim (fun e=>e ▸ h1) (h2 x)
theorem bD {a:Wd} (h1:Tk a):∀ x∈[a],Tk x:=fun _ hx=>(List.mem_singleton.1 hx) ▸ h1
theorem bHo:∀ t:Tr,Good t→t.w≤1048576→oD t≤8192→rP t≤60→tl t≤109951162777→(isT 2 t=true→∃ w,Bx t w)∧(∀ y∈(match t with | .nil=>[] | .node _ _ _ _ l=>l),isT 2 y=true→tl y≤109951162777→∃ w,Bx y w):=Tr.ind
 (fun h=>by cases h)
 fun k n nm mk ks ih h hw hs hd hz=>by
  cases h with
  | mk g1 g2 g3 g4 =>
   rw [aJ] at hw
   rw [aCI] at hs
   rw [aIl] at hd
   have sub:∀ y∈ks,Good y∧y.w≤1048576∧oD y≤8192∧rP y≤60:=fun y hy=>⟨g4 y hy,by have:=aBK hy; omega,by have:=aPV hy; omega,by have:=aPZ (d:=0) hy; omega⟩
   have kid:∀ y∈ks,isT 2 y=true→tl y≤109951162777→∃ w,Bx y w:=fun y hy hi hz=>by
    obtain ⟨a,b,c,d⟩:=sub y hy
    exact (ih y hy a b c d hz).1 hi
   have kid2:∀ y∈ks,tl y≤109951162777→∀ e∈(match y with | .nil=>[] | .node _ _ _ _ l=>l),isT 2 e=true→tl e≤109951162777→∃ w,Bx e w:=fun y hy hz=>by
    obtain ⟨a,b,c,d⟩:=sub y hy
    exact (ih y hy a b c d hz).2
   have typ:∀ y∈ks,isT 1 y=true→∃ w,Bk y w∧Ev (fun K=>mB K y) (jn w):=fun y hy hi=>by
    obtain ⟨a,b,c,d⟩:=sub y hy
    exact bDc a b c d hi
   refine ⟨fun hi=>?_,kid⟩
   have form:=bF5 hi
   clear hi ih g1 g2 g3 g4
   cases form with
   | int n h =>
    have hl:=aYE (n:=n) (by omega)
    exact ⟨[(2,aA8 n)],bx5 (by simp) (bD (bHP h)) (by rw [dG (by decide),dZ]; simp [jn,jt]; omega) (bHI (by omega) |>.cast (by simp [jn,jt])) (by rw [sW2,aSL,decide_eq_true h.1,decide_eq_true h.2]; rfl) rfl (by rw [aGq (by decide) (by decide),hY]; simp) (bJk h)⟩
   | bool n h =>
    have hb:aPT n=[116,114,117,101]∨aPT n=[102,97,108,115,101]:=by unfold aPT; split <;> simp
    refine ⟨[(3,aPT n)],bx5 (by simp) (bD ?_) ?_ (bEW.cast (by simp [jn,jt])) ?_ rfl (by rw [aGq (by decide) (by decide),hY]; simp) (bGO h)⟩
    ·rcases hb with e | e <;> rw [e] <;> exact aNE (by decide)
    ·rw [dG (by decide),dZ]; rcases hb with e | e <;> rw [e] <;> decide
    ·rw [sW3]; rcases hb with e | e <;> rw [e] <;> decide
   | unit=>exact ⟨[(3,[40]),(3,[41])],bx5 (by simp) (mem_cons (sK (by decide)) (bD (sK (by decide)))) (by rw [dG (by decide),dZ]; decide) (bET.cast rfl) (by rw [sW3]; decide) rfl (by rw [aGq (by decide) (by decide),hY]; simp) bH3⟩
   | var s h =>
    have hl:=aIo h
    exact ⟨[(1,nm)],bx5 (by simp) (bD (aC0 (aC6 h))) (by rw [dG (by decide),dZ]; simp [jn,jt]; omega) (bGB.cast (by simp [jn,jt])) (by rw [sW1,h]) rfl (by rw [aGq (by decide) (by decide),hY]; simp) (bJx h)⟩
   | lam s t b h ht hb =>
    obtain ⟨wt,t1,t2⟩:=typ t (by simp) ht
    rw [dG (by decide),aV,aV,dZ,aYA ht] at hz
    obtain ⟨wb,hb⟩:=kid b (by simp) hb (by omega)
    have l1:=hb.len; have l2:=t1.len; have c1:=hb.cnt; have c2:=t1.cnt
    have hn:=lG h
    have ej:jn ((3,[102,110]) :: (3,[40]) :: (1,nm) :: (3,[58]) :: (wt++(3,[41]) :: (3,[61,62]) :: wb))=[102,110,32,40,32]++nm++[32,58,32]++jn wt++[32,41,32,61,62,32]++jn wb:=by
     rw [aEm,qX,qX,qX,aAq,rO t1.ne,qX,qX,rO hb.ne]; simp
    refine ⟨_,bx0 (by simp) ?_ ?_ ((bG7 t2 hb.pw (by omega) (by omega) (by omega)).cast ej.symm) (by rw [iR]; decide) rfl ?_ (bIW h t1.p0 hb.a0)⟩
    ·exact mem_cons (aNE (by decide)) (mem_cons (sK (by decide)) (mem_cons (aA5 h) (mem_cons (sK (by decide)) (zU (bF2 t1) (mem_cons (sK (by decide)) (mem_cons (sK (by decide)) hb.tk))))))
    ·rw [ej,dG (by decide),aV,aV,dZ,aYA ht]; simp; omega
    ·rw [lH (by decide) (by decide),bU,bU,hY,bDt ht]; simp; omega
   | app a b ha hb =>
    rw [dG (by decide),aV,aV,dZ] at hz
    obtain ⟨wa,ha⟩:=kid a (by simp) ha (by omega)
    obtain ⟨wb,hb⟩:=kid b (by simp) hb (by omega)
    have l1:=ha.len; have l2:=hb.len; have c1:=ha.w_cnt (lv:=4) (by decide); have c2:=hb.w_cnt (lv:=5) (by decide)
    have pa:=tV (decide (lvE a<4)) (jn wa)
    have pb:=tV (decide (lvE b<5)) (jn wb)
    have ej:jn (wr 4 a wa++wr 5 b wb)=par (decide (lvE a<4)) (jn wa)++[32]++par (decide (lvE b<5)) (jn wb):=by
     rw [aKr (ha.w_ne 4),rO (hb.w_ne 5),ha.w_jn,hb.w_jn]; simp
    refine ⟨_,bx4 (by simp [ha.w_ne 4]) (zU (ha.w_tk 4) (hb.w_tk 5)) ?_ ((bHf ha.pw hb.pw (by omega) (by omega)).cast ej.symm) (bD9 (ha.w_ne 4) (ha.w_st (by decide))) rfl ?_ (bIQ ha.w4 hb.w5 (hb.w_ne 5) (hb.w_st (by decide)))⟩
    ·rw [ej,dG (by decide),aV,aV,dZ]; simp; omega
    ·rw [lH (by decide) (by decide),bU,bU,hY]; simp; omega
   | pair a b ha hb =>
    rw [dG (by decide),aV,aV,dZ] at hz
    obtain ⟨wa,ha⟩:=kid a (by simp) ha (by omega)
    obtain ⟨wb,hb⟩:=kid b (by simp) hb (by omega)
    have l1:=ha.len; have l2:=hb.len; have c1:=ha.cnt; have c2:=hb.cnt
    have ej:jn ((3,[40]) :: (wa++(3,[44]) :: (wb++[(3,[41])])))=[40,32]++jn wa++[32,44,32]++jn wb++[32,41]:=by
     rw [aEm,aAq,rO ha.ne,qX,aAq,rO hb.ne]; simp [jt]
    refine ⟨_,bx5 (by simp) ?_ ?_ ((bFd ha.pw hb.pw (by omega) (by omega)).cast ej.symm) (by rw [sW3]; decide) rfl ?_ (bIo ha.ne ha.h41 ha.a0 hb.a0)⟩
    ·exact mem_cons (sK (by decide)) (zU ha.tk (mem_cons (sK (by decide)) (zU hb.tk (bD (sK (by decide))))))
    ·rw [ej,dG (by decide),aV,aV,dZ]; simp; omega
    ·rw [lH (by decide) (by decide),bU,bU,hY]; simp; omega
   | fst a ha =>
    rw [dG (by decide),aV,dZ] at hz
    obtain ⟨wa,ha⟩:=kid a (by simp) ha (by omega)
    have l1:=ha.len; have c1:=ha.w_cnt (lv:=5) (by decide)
    have pa:=tV (decide (lvE a<5)) (jn wa)
    have ej:jn ((3,[35,49]) :: wr 5 a wa)=[35,49,32]++par (decide (lvE a<5)) (jn wa):=by
     rw [aEm,rO (ha.w_ne 5),ha.w_jn]; simp
    refine ⟨_,bx5 (by simp) (mem_cons (sK (by decide)) (ha.w_tk 5)) ?_ ((bIa ha.pw (by omega)).cast ej.symm) (by rw [sW3]; decide) rfl ?_ (bGd (.inl ⟨rfl,rfl⟩) ha.w5)⟩
    ·rw [ej,dG (by decide),aV,dZ]; simp; omega
    ·rw [lH (by decide) (by decide),bU,hY]; simp; omega
   | snd a ha =>
    rw [dG (by decide),aV,dZ] at hz
    obtain ⟨wa,ha⟩:=kid a (by simp) ha (by omega)
    have l1:=ha.len; have c1:=ha.w_cnt (lv:=5) (by decide)
    have pa:=tV (decide (lvE a<5)) (jn wa)
    have ej:jn ((3,[35,50]) :: wr 5 a wa)=[35,50,32]++par (decide (lvE a<5)) (jn wa):=by
     rw [aEm,rO (ha.w_ne 5),ha.w_jn]; simp
    refine ⟨_,bx5 (by simp) (mem_cons (sK (by decide)) (ha.w_tk 5)) ?_ ((bGY ha.pw (by omega)).cast ej.symm) (by rw [sW3]; decide) rfl ?_ (bGd (.inr ⟨rfl,rfl⟩) ha.w5)⟩
    ·rw [ej,dG (by decide),aV,dZ]; simp; omega
    ·rw [lH (by decide) (by decide),bU,hY]; simp; omega
   | let_ s a b h ha hb =>
    rw [dG (by decide),aV,aV,dZ] at hz
    obtain ⟨wa,ha⟩:=kid a (by simp) ha (by omega)
    obtain ⟨wb,hb⟩:=kid b (by simp) hb (by omega)
    have l1:=ha.len; have l2:=hb.len; have c1:=ha.cnt; have c2:=hb.cnt
    have hn:=lG h
    have ej:jn ((3,[108,101,116]) :: (1,nm) :: (3,[61]) :: (wa++(3,[105,110]) :: (wb++[(3,[101,110,100])])))=[108,101,116,32]++nm++[32,61,32]++jn wa++[32,105,110,32]++jn wb++[32,101,110,100]:=by
     rw [aEm,qX,qX,aAq,rO ha.ne,qX,aAq,rO hb.ne]; simp [jt]
    refine ⟨_,bx0 (by simp) ?_ ?_ ((bH1 ha.pw hb.pw (by omega) (by omega) (by omega)).cast ej.symm) (by rw [iR]; decide) rfl ?_ (bIC h ha.a0 hb.a0)⟩
    ·exact mem_cons (aNE (by decide)) (mem_cons (aA5 h) (mem_cons (sK (by decide)) (zU ha.tk (mem_cons (aNE (by decide)) (zU hb.tk (bD (aNE (by decide))))))))
    ·rw [ej,dG (by decide),aV,aV,dZ]; simp; omega
    ·rw [lH (by decide) (by decide),bU,bU,hY]; simp; omega
   | if_ a b c ha hb hc =>
    rw [dG (by decide),aV,aV,aV,dZ] at hz
    obtain ⟨wa,ha⟩:=kid a (by simp) ha (by omega)
    obtain ⟨wb,hb⟩:=kid b (by simp) hb (by omega)
    obtain ⟨wc',hc⟩:=kid c (by simp) hc (by omega)
    have l1:=ha.len; have l2:=hb.len; have l3:=hc.len; have c1:=ha.cnt; have c2:=hb.cnt; have c3:=hc.cnt
    have ej:jn ((3,[105,102]) :: (wa++(3,[116,104,101,110]) :: (wb++(3,[101,108,115,101]) :: wc')))=[105,102,32]++jn wa++[32,116,104,101,110,32]++jn wb++[32,101,108,115,101,32]++jn wc':=by
     rw [aEm,aAq,rO ha.ne,qX,aAq,rO hb.ne,qX,rO hc.ne]; simp
    refine ⟨_,bx0 (by simp) ?_ ?_ ((bIR ha.pw hb.pw hc.pw (by omega) (by omega) (by omega)).cast ej.symm) (by rw [iR]; decide) rfl ?_ (bJP ha.a0 hb.a0 hc.a0)⟩
    ·exact mem_cons (aNE (by decide)) (zU ha.tk (mem_cons (aNE (by decide)) (zU hb.tk (mem_cons (aNE (by decide)) hc.tk))))
    ·rw [ej,dG (by decide),aV,aV,aV,dZ]; simp; omega
    ·rw [lH (by decide) (by decide),bU,bU,bU,hY]; simp; omega
   | op n a b h ha hb =>
    rw [dG (by decide),aV,aV,dZ] at hz
    obtain ⟨wa,ha⟩:=kid a (by simp) ha (by omega)
    obtain ⟨wb,hb⟩:=kid b (by simp) hb (by omega)
    have l1:=ha.len; have l2:=hb.len
    have mk:∀ (lf rt:Int) (s:List UInt8),lf=lfO n→rt=lvO n+1→sgO n=[32]++s++[32]→s.length=1→1≤lf∧lf≤5→rt≤5→Tk (3,s)→(∀ w,w=wr lf a wa++(3,s) :: wr rt b wb→w≠[]→(∀ x∈w,Tk x)→(jn w).length+8≤tl (.node 31 n [] [] [a,b])→PW (.node 31 n [] [] [a,b]) (jn w)→sW w=true→w.length+2≤wc (.node 31 n [] [] [a,b])→Bx (.node 31 n [] [] [a,b]) w)→∃ w,Bx (.node 31 n [] [] [a,b]) w:=by
     intro lf rt s e1 e2 e3 hs1 hlf hrt hk fin
     have c1:=ha.w_cnt (lv:=lf) hlf.2
     have c2:=hb.w_cnt (lv:=rt) hrt
     have pa:=tV (decide (lvE a<lf)) (jn wa)
     have pb:=tV (decide (lvE b<rt)) (jn wb)
     have ej:jn (wr lf a wa++(3,s) :: wr rt b wb)=par (decide (lvE a<lfO n)) (jn wa)++sgO n++par (decide (lvE b<lvO n+1)) (jn wb):=by
      rw [aKr (ha.w_ne lf),qX,rO (hb.w_ne rt),ha.w_jn,hb.w_jn,e3,← e1,← e2]; simp
     refine ⟨_,fin _ rfl (by simp) (zU (ha.w_tk lf) (mem_cons hk (hb.w_tk rt))) ?_ ((bJp h ha.pw hb.pw (by omega) (by omega)).cast ej.symm) (bD9 (ha.w_ne lf) (ha.w_st (by omega))) ?_⟩
     ·rw [ej,dG (by decide),aV,aV,dZ,e3,← e1,← e2]; simp; omega
     ·rw [lH (by decide) (by decide),bU,bU,hY]; simp; omega
    have h5:n=1∨n=2∨n=3∨n=4∨n=5:=by omega
    rcases h5 with rfl | rfl | rfl | rfl | rfl
    ·exact mk 2 3 [43] rfl rfl rfl rfl (by decide) (by decide) (sK (by decide)) fun w e a1 a2 a3 a4 a5 a6=>bx2 a1 a2 a3 a4 a5 rfl a6 (e ▸ bGv (.inl ⟨rfl,rfl⟩) ha.w2 hb.w3 (hb.w_ne 3))
    ·exact mk 2 3 [45] rfl rfl rfl rfl (by decide) (by decide) (sK (by decide)) fun w e a1 a2 a3 a4 a5 a6=>bx2 a1 a2 a3 a4 a5 rfl a6 (e ▸ bGv (.inr ⟨rfl,rfl⟩) ha.w2 hb.w3 (hb.w_ne 3))
    ·exact mk 3 4 [42] rfl rfl rfl rfl (by decide) (by decide) (sK (by decide)) fun w e a1 a2 a3 a4 a5 a6=>bx3 a1 a2 a3 a4 a5 rfl a6 (e ▸ bJe ha.w3 hb.w4 (hb.w_ne 4))
    ·exact mk 2 2 [61] rfl rfl rfl rfl (by decide) (by decide) (sK (by decide)) fun w e a1 a2 a3 a4 a5 a6=>bx1 a1 a2 a3 a4 a5 rfl a6 (e ▸ bF9 (.inl ⟨rfl,rfl⟩) (ha.w_ne 2) ha.w2 hb.w2 (hb.w_ne 2))
    ·exact mk 2 2 [60] rfl rfl rfl rfl (by decide) (by decide) (sK (by decide)) fun w e a1 a2 a3 a4 a5 a6=>bx1 a1 a2 a3 a4 a5 rfl a6 (e ▸ bF9 (.inr ⟨rfl,rfl⟩) (ha.w_ne 2) ha.w2 hb.w2 (hb.w_ne 2))
   | case_ a r ha h0 hr =>
    rw [dG (by decide),aV] at hz
    obtain ⟨wa,ha⟩:=kid a (by simp) ha (by omega)
    have l1:=ha.len; have c1:=ha.cnt
    obtain ⟨L,rfl,hL⟩:=bAj r hr (fun y hy e he hi=>kid2 y (List.mem_cons_of_mem _ hy) (by have:=aID hy; omega) e he hi (by
     have:=aID hy
     obtain ⟨c,x,e',rfl,_⟩:=aWY (hr y hy)
     simp only [List.mem_singleton] at he
     subst he
     rw [dG (by decide),aV,dZ] at this
     omega))
    have hL0:L≠[]:=fun e=>h0 (by rw [e]; rfl)
    obtain ⟨j1,j2⟩:=aZQ L hL0 hL
    have ml:(L.map toA).map aTr=L.map xTr:=by rw [List.map_map]; rfl
    have hn:(L.map toA).length≤1048576:=by
     have:=aIW (L.map xTr)
     rw [aD,] at hw
     simp at this ⊢; omega
    have ej:jn ((3,[99,97,115,101]) :: (wa++(3,[111,102]) :: xsW L))=[99,97,115,101,32]++jn wa++[32,111,102,32]++aEK (L.map toA):=by
     rw [aEm,aAq,rO ha.ne,qX,rO (bGr L),bC5 L hL0 hL]; simp
    have hp:=bFu (n:=0) (nm:=[]) (mk:=[]) (L:=L.map toA) ha.pw (by omega) (fun x hx=>by
     obtain ⟨y,hy,rfl⟩:=List.mem_map.1 hx
     obtain ⟨q1,q2,q3⟩:=hL y hy
     have:=lG q1; have:=lG q2; have:=q3.len
     have hm:=aID (List.mem_map_of_mem (f:=xTr) hy)
     rw [aXz] at hm
     exact ⟨by show y.1.length≤1000; omega,by show y.2.1.length≤1000; omega,q3.pw,by show (jn y.2.2.2).length≤_; omega⟩) hn (by omega)
    rw [ml] at hp
    refine ⟨_,bx0 (by simp) ?_ ?_ (hp.cast ej.symm) (by rw [iR]; decide) rfl ?_ (bIj ha.a0 hL0 (fun x hx=>⟨(hL x hx).1,(hL x hx).2.1,(hL x hx).2.2.a0⟩))⟩
    ·exact mem_cons (aNE (by decide)) (zU ha.tk (mem_cons (aNE (by decide)) (bCR L hL)))
    ·rw [ej,dG (by decide),aV]; unfold aEK; simp only [List.length_append,List.length_cons,List.length_nil]; omega
    ·rw [lH (by decide) (by decide),bU]; simp only [List.length_append,List.length_cons]; omega
   | fold_ a t r ha ht h0 hr =>
    rw [dG (by decide),aV,aV,aYA ht] at hz
    obtain ⟨wa,ha⟩:=kid a (by simp) ha (by omega)
    obtain ⟨wt,t1,t2⟩:=typ t (by simp) ht
    have l1:=ha.len; have c1:=ha.cnt; have l2:=t1.len; have c2:=t1.cnt
    obtain ⟨L,rfl,hL⟩:=bAj r hr (fun y hy e he hi=>kid2 y (List.mem_cons_of_mem _ (List.mem_cons_of_mem _ hy)) (by have:=aID hy; omega) e he hi (by
     have:=aID hy
     obtain ⟨c,x,e',rfl,_⟩:=aWY (hr y hy)
     simp only [List.mem_singleton] at he
     subst he
     rw [dG (by decide),aV,dZ] at this
     omega))
    have hL0:L≠[]:=fun e=>h0 (by rw [e]; rfl)
    obtain ⟨j1,j2⟩:=aZQ L hL0 hL
    have ml:(L.map toA).map aTr=L.map xTr:=by rw [List.map_map]; rfl
    have hn:(L.map toA).length≤1048576:=by
     have:=aIW (L.map xTr)
     rw [aD,aD] at hw
     simp at this ⊢; omega
    have ej:jn ((3,[102,111,108,100]) :: (wa++(3,[116,111]) :: (wt++(3,[111,102]) :: xsW L)))=[102,111,108,100,32]++jn wa++[32,116,111,32]++jn wt++[32,111,102,32]++aEK (L.map toA):=by
     rw [aEm,aAq,rO ha.ne,qX,aAq,rO t1.ne,qX,rO (bGr L),bC5 L hL0 hL]; simp
    have hp:=bFH (n:=0) (nm:=[]) (mk:=[]) (L:=L.map toA) ha.pw (by omega) t2 (by omega) (fun x hx=>by
     obtain ⟨y,hy,rfl⟩:=List.mem_map.1 hx
     obtain ⟨q1,q2,q3⟩:=hL y hy
     have:=lG q1; have:=lG q2; have:=q3.len
     have hm:=aID (List.mem_map_of_mem (f:=xTr) hy)
     rw [aXz] at hm
     exact ⟨by show y.1.length≤1000; omega,by show y.2.1.length≤1000; omega,q3.pw,by show (jn y.2.2.2).length≤_; omega⟩) hn (by omega)
    rw [ml] at hp
    refine ⟨_,bx0 (by simp) ?_ ?_ (hp.cast ej.symm) (by rw [iR]; decide) rfl ?_ (bHK ha.a0 t1.p0 hL0 (fun x hx=>⟨(hL x hx).1,(hL x hx).2.1,(hL x hx).2.2.a0⟩))⟩
    ·exact mem_cons (aNE (by decide)) (zU ha.tk (mem_cons (aNE (by decide)) (zU (bF2 t1) (mem_cons (aNE (by decide)) (bCR L hL)))))
    ·rw [ej,dG (by decide),aV,aV,aYA ht]; unfold aEK; simp only [List.length_append,List.length_cons,List.length_nil]; omega
    ·rw [lH (by decide) (by decide),bU,bU,bDt ht]; simp only [List.length_append,List.length_cons]; omega
end Go.Proofs.YtjhfgiieicloeaaGreatDoor

/- How long the text, how many the words of a tree are. -/
namespace Go.Proofs.YtjhfgiieicloeaaGreatDoor
open Go Go.Am Go.Sx
def Lt (t:Tr):Prop:=tl t≤200 * t.w∧wc t≤8 * t.w
theorem bGe {t:Tr} (h:isT 1 t=true):Lt t:=⟨by rw [aYA h]; omega,by rw [bDt h]; omega⟩
theorem aWZ:∀ r:List Tr,(∀ y∈r,isT 9 y=true)→(∀ y∈r,∀ e∈(match y with | .nil=>[] | .node _ _ _ _ l=>l),isT 2 e=true→Lt e)→tlL r≤200 * wL r∧wcL r≤8 * wL r
 | [],_,_=>by rw [dZ,hY]; omega
 | y :: r,h,hk=>by
  obtain ⟨i1,i2⟩:=aWZ r (fun x hx=>h x (List.mem_cons_of_mem _ hx)) (fun x hx=>hk x (List.mem_cons_of_mem _ hx))
  obtain ⟨c,x,e,rfl,hc,hx,he⟩:=aWY (h _ List.mem_cons_self)
  obtain ⟨l1,l2⟩:=hk _ List.mem_cons_self e (by simp) he
  have:=lG hc
  have:=lG hx
  rw [aV,bU,aD,dG (by decide),lH (by decide) (by decide),aJ,aV,dZ,bU,hY,aD,aK]
  omega
theorem bHW:∀ t:Tr,(isT 2 t=true→Lt t)∧(∀ y∈(match t with | .nil=>[] | .node _ _ _ _ l=>l),isT 2 y=true→Lt y):=Tr.ind
 ⟨fun h=>(by rw [aXJ] at h; cases h),fun y hy=>(by simp at hy)⟩
 fun k n nm mk ks ih=>by
  have kid:∀ y∈ks,isT 2 y=true→Lt y:=fun y hy=>(ih y hy).1
  have kid2:∀ y∈ks,∀ e∈(match y with | .nil=>[] | .node _ _ _ _ l=>l),isT 2 e=true→Lt e:=fun y hy=>(ih y hy).2
  refine ⟨fun hi=>?_,kid⟩
  have form:=bF5 hi
  clear hi ih
  cases form with
  | int n h=>exact ⟨by rw [dG (by decide),dZ,aJ,aK]; simp,by rw [aGq (by decide) (by decide),hY,aJ,aK]; simp⟩
  | bool n h=>exact ⟨by rw [dG (by decide),dZ,aJ,aK]; simp,by rw [aGq (by decide) (by decide),hY,aJ,aK]; simp⟩
  | unit=>exact ⟨by rw [dG (by decide),dZ,aJ,aK]; simp,by rw [aGq (by decide) (by decide),hY,aJ,aK]; simp⟩
  | var s h=>have:=aIo h; exact ⟨by rw [dG (by decide),dZ,aJ,aK]; simp; omega,by rw [aGq (by decide) (by decide),hY,aJ,aK]; simp⟩
  | lam s t b h ht hb =>
   obtain ⟨t1,t2⟩:=bGe ht; obtain ⟨b1,b2⟩:=kid b (by simp) hb; have:=lG h
   exact ⟨by rw [dG (by decide),aV,aV,dZ,aJ,aD,aD,aK]; simp; omega,by rw [lH (by decide) (by decide),bU,bU,hY,aJ,aD,aD,aK]; omega⟩
  | app a b ha hb =>
   obtain ⟨a1,a2⟩:=kid a (by simp) ha; obtain ⟨b1,b2⟩:=kid b (by simp) hb
   exact ⟨by rw [dG (by decide),aV,aV,dZ,aJ,aD,aD,aK]; simp; omega,by rw [lH (by decide) (by decide),bU,bU,hY,aJ,aD,aD,aK]; omega⟩
  | pair a b ha hb =>
   obtain ⟨a1,a2⟩:=kid a (by simp) ha; obtain ⟨b1,b2⟩:=kid b (by simp) hb
   exact ⟨by rw [dG (by decide),aV,aV,dZ,aJ,aD,aD,aK]; simp; omega,by rw [lH (by decide) (by decide),bU,bU,hY,aJ,aD,aD,aK]; omega⟩
  | fst a ha =>
   obtain ⟨a1,a2⟩:=kid a (by simp) ha
   exact ⟨by rw [dG (by decide),aV,dZ,aJ,aD,aK]; simp; omega,by rw [lH (by decide) (by decide),bU,hY,aJ,aD,aK]; omega⟩
  | snd a ha =>
   obtain ⟨a1,a2⟩:=kid a (by simp) ha
   exact ⟨by rw [dG (by decide),aV,dZ,aJ,aD,aK]; simp; omega,by rw [lH (by decide) (by decide),bU,hY,aJ,aD,aK]; omega⟩
  | let_ s a b h ha hb =>
   obtain ⟨a1,a2⟩:=kid a (by simp) ha; obtain ⟨b1,b2⟩:=kid b (by simp) hb; have:=lG h
   exact ⟨by rw [dG (by decide),aV,aV,dZ,aJ,aD,aD,aK]; simp; omega,by rw [lH (by decide) (by decide),bU,bU,hY,aJ,aD,aD,aK]; omega⟩
  | if_ a b c ha hb hc =>
   obtain ⟨a1,a2⟩:=kid a (by simp) ha; obtain ⟨b1,b2⟩:=kid b (by simp) hb; obtain ⟨c1,c2⟩:=kid c (by simp) hc
   exact ⟨by rw [dG (by decide),aV,aV,aV,dZ,aJ,aD,aD,aD,aK]; simp; omega,by rw [lH (by decide) (by decide),bU,bU,bU,hY,aJ,aD,aD,aD,aK]; omega⟩
  | op n a b h ha hb =>
   obtain ⟨a1,a2⟩:=kid a (by simp) ha; obtain ⟨b1,b2⟩:=kid b (by simp) hb
   exact ⟨by rw [dG (by decide),aV,aV,dZ,aJ,aD,aD,aK]; simp; omega,by rw [lH (by decide) (by decide),bU,bU,hY,aJ,aD,aD,aK]; omega⟩
  | case_ a r ha h0 hr =>
   obtain ⟨a1,a2⟩:=kid a (by simp) ha
   obtain ⟨r1,r2⟩:=aWZ r hr fun y hy=>kid2 y (List.mem_cons_of_mem _ hy)
   exact ⟨by rw [dG (by decide),aV,aJ,aD]; simp only [List.length_nil]; omega,by rw [lH (by decide) (by decide),bU,aJ,aD]; omega⟩
  | fold_ a t r ha ht h0 hr =>
   obtain ⟨a1,a2⟩:=kid a (by simp) ha; obtain ⟨t1,t2⟩:=bGe ht
   obtain ⟨r1,r2⟩:=aWZ r hr fun y hy=>kid2 y (List.mem_cons_of_mem _ (List.mem_cons_of_mem _ hy))
   exact ⟨by rw [dG (by decide),aV,aV,aJ,aD,aD]; simp only [List.length_nil]; omega,by rw [lH (by decide) (by decide),bU,bU,aJ,aD,aD]; omega⟩
end Go.Proofs.YtjhfgiieicloeaaGreatDoor

