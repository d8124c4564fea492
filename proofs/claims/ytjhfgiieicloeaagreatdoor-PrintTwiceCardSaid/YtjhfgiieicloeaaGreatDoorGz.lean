/- Joined texts: X9c, Y6, M6. -/
import Derived.Test.YtjhfgiieicloeaaGreatDoorGq
import Derived.Test.YtjhfgiieicloeaaGreatDoorGu
import Derived.Test.YtjhfgiieicloeaaGreatDoorGy
import Derived.Test.YtjhfgiieicloeaaGreatDoorGn
/- What is parsed has a type's form. -/
namespace Go.Proofs.YtjhfgiieicloeaaGreatDoor
open Go Go.Am Go.Sx
theorem aQl (f:Tr→Bool) (k:Tr):∀ (l:List Tr) (s:List (List UInt8)),jV f s (l++[k])=(jV f s l && (f k && !decide (nameOf k∈s++l.map nameOf)))
 | [],s=>by simp [jV]
 | x :: l,s=>by
  rw [List.cons_append]
  unfold jV
  rw [aQl f k l]
  simp [Bool.and_assoc]
theorem aRp {l:List aF} {i:Int} (h:(kS l i).2=true):fH (kS l i).1=true:=by
 unfold kS at h ⊢
 generalize aGw l i=o at h ⊢
 cases o with
 | none=>cases h
 | some k =>
  simp only at h ⊢
  split at h
  ·rename_i hc
   rw [if_pos hc]; exact hc.2
  ·cases h
theorem aZg {l:List aF} {i:Int} (h:(yH l i).2=true):lgS (yH l i).1=true:=by
 unfold yH at h ⊢
 generalize aGw l i=o at h ⊢
 cases o with
 | none=>cases h
 | some k =>
  simp only at h ⊢
  split at h
  ·rename_i hc
   rw [if_pos hc]; exact hc.2
  ·cases h
theorem aQp {k:Int} {nm:List UInt8} {ks:List Tr} (h1:nm.length≤1000) (h2:ks.length≤1000000) (h3:∀ x∈ks,Good x):Good (.node k 0 nm [] ks):=.mk (by omega) (by simp) (by omega) h3
theorem aZU {k:Int} (hk:k=5∨k=6) {a b:Tr} (ha:isT 1 a=true) (hb:isT 1 b=true):isT 1 (.node k 0 [] [] [a,b])=true:=by
 rcases hk with rfl | rfl
 ·rw [aP (r:=(1,5,[],[],0,0,[116,116])) rfl]
  simp [dM,bN,rQ (a:=116) (b:=116) (c:=1) (d:=1) (by decide) (by decide) (by decide) (by decide) (by decide) (by decide) rfl rfl,k2S,ha,hb]
 ·rw [aP (r:=(1,6,[],[],0,0,[116,116])) rfl]
  simp [dM,bN,rQ (a:=116) (b:=116) (c:=1) (d:=1) (by decide) (by decide) (by decide) (by decide) (by decide) (by decide) rfl rfl,k2S,ha,hb]
theorem bHd {nm:List UInt8} {ks:List Tr} (hn:fH nm=true) (hc:jV (isT 8) [] ks=true) (h0:ks≠[]):isT 1 (.node 7 0 nm [] ks)=true:=by
 rw [aP (r:=(1,7,[110],[],0,0,[67])) rfl]
 have e67:cF isT [67] ks=(jV (isT 8) [] ks && decide (0<ks.length)):=rfl
 have hp:0<ks.length:=List.length_pos_iff.2 h0
 simp [dM,bN,oR,e67,hn,hc,hp]
theorem bH1 {nm:List UInt8} {t:Tr} (hn:fH nm=true) (ht:isT 1 t=true):isT 8 (.node 8 0 nm [] [t])=true:=by
 rw [aWb]
 simp [fR,hn,ht,k1S]
section
variable (l:List aF)
theorem bCI:∀ n,n≤100000→∀ i,(∀ t j,aBc l n i=(t,j,0)→isT 1 t=true∧Good t)∧(∀ t j,aDj l n i=(t,j,0)→isT 1 t=true∧Good t)∧(∀ t j,aDn l n i=(t,j,0)→isT 1 t=true∧Good t) ∧
  (∀ out c j,aCc l n i out=(c,j,0)→jV (isT 8) [] out=true→(∀ x∈out,Good x)→jV (isT 8) [] c=true∧c≠[]∧(∀ x∈c,Good x)∧c.length≤out.length+n):=by
 intro n
 induction n with
 | zero =>
  intro _ i
  refine ⟨fun t j h=>?_,fun t j h=>?_,fun t j h=>?_,fun out c j h=>?_⟩
  ·rw [aBc] at h; simp at h
  ·rw [aDj] at h; simp at h
  ·rw [aDn] at h; simp at h
  ·rw [aCc] at h; simp at h
 | succ n ih =>
  intro hn i
  have ih:=ih (by omega)
  refine ⟨fun t j h=>?_,fun t j h=>?_,fun t j h=>?_,fun out c j h hco hgo=>?_⟩
  ·rw [aBc] at h
   have h1:=(ih i).2.1
   generalize aDj l n i=g at *
   obtain ⟨a,j1,e1⟩:=g
   simp only at h
   by_cases he:e1=0
   ·subst he
    rw [if_pos rfl] at h
    obtain ⟨a1,a2⟩:=h1 a j1 rfl
    by_cases hk:aU l (j1:Int) [45,62]=true
    ·rw [if_pos hk] at h
     have h2:=(ih (j1+1)).1
     generalize aBc l n (j1+1)=g at *
     obtain ⟨b,j2,e2⟩:=g
     simp only [Prod.mk.injEq] at h
     obtain ⟨h3,h4,h5⟩:=h
     subst h5
     obtain ⟨b1,b2⟩:=h2 b j2 rfl
     rw [if_pos rfl] at h3
     subst h3
     exact ⟨aZU (.inl rfl) a1 b1,aQp (by simp) (by simp) (by simp [a2,b2])⟩
    ·rw [if_neg hk] at h
     simp only [Prod.mk.injEq] at h
     obtain ⟨rfl,_,_⟩:=h
     exact ⟨a1,a2⟩
   ·rw [if_neg he] at h
    simp only [Prod.mk.injEq] at h
    exact absurd h.2.2 he
  ·rw [aDj] at h
   have h1:=(ih i).2.2.1
   generalize aDn l n i=g at *
   obtain ⟨a,j1,e1⟩:=g
   simp only at h
   by_cases he:e1=0
   ·subst he
    rw [if_pos rfl] at h
    obtain ⟨a1,a2⟩:=h1 a j1 rfl
    by_cases hk:aU l (j1:Int) [42]=true
    ·rw [if_pos hk] at h
     have h2:=(ih (j1+1)).2.1
     generalize aDj l n (j1+1)=g at *
     obtain ⟨b,j2,e2⟩:=g
     simp only [Prod.mk.injEq] at h
     obtain ⟨h3,h4,h5⟩:=h
     subst h5
     obtain ⟨b1,b2⟩:=h2 b j2 rfl
     rw [if_pos rfl] at h3
     subst h3
     exact ⟨aZU (.inr rfl) a1 b1,aQp (by simp) (by simp) (by simp [a2,b2])⟩
    ·rw [if_neg hk] at h
     simp only [Prod.mk.injEq] at h
     obtain ⟨rfl,_,_⟩:=h
     exact ⟨a1,a2⟩
   ·rw [if_neg he] at h
    simp only [Prod.mk.injEq] at h
    exact absurd h.2.2 he
  ·rw [aDn] at h
   by_cases c1:(yH l (i:Int)).2=true
   ·rw [if_pos c1] at h
    simp only [Prod.mk.injEq] at h
    obtain ⟨rfl,_,_⟩:=h
    have hl:=aZg c1
    have hll:=yU hl
    refine ⟨?_,aQp (by omega) (by simp) (by simp)⟩
    rw [aP (r:=(1,4,[108],[],0,0,[])) rfl]
    simp [dM,bN,aEq,cF,hl]
   rw [if_neg c1] at h
   by_cases c2:aU l (i:Int) [105,110,116]=true
   ·rw [if_pos c2] at h
    simp only [Prod.mk.injEq] at h
    obtain ⟨rfl,_,_⟩:=h
    refine ⟨?_,aQp (by simp) (by simp) (by simp)⟩
    rw [aP (r:=(1,1,[],[],0,0,[])) rfl]
    simp [dM,bN,cF]
   rw [if_neg c2] at h
   by_cases c3:aU l (i:Int) [98,111,111,108]=true
   ·rw [if_pos c3] at h
    simp only [Prod.mk.injEq] at h
    obtain ⟨rfl,_,_⟩:=h
    refine ⟨?_,aQp (by simp) (by simp) (by simp)⟩
    rw [aP (r:=(1,2,[],[],0,0,[])) rfl]
    simp [dM,bN,cF]
   rw [if_neg c3] at h
   by_cases c4:aU l (i:Int) [117,110,105,116]=true
   ·rw [if_pos c4] at h
    simp only [Prod.mk.injEq] at h
    obtain ⟨rfl,_,_⟩:=h
    refine ⟨?_,aQp (by simp) (by simp) (by simp)⟩
    rw [aP (r:=(1,3,[],[],0,0,[])) rfl]
    simp [dM,bN,cF]
   rw [if_neg c4] at h
   by_cases c5:aU l (i:Int) [40]=true
   ·rw [if_pos c5] at h
    have h1:=(ih (i+1)).1
    generalize aBc l n (i+1)=g at *
    obtain ⟨a,j1,e1⟩:=g
    simp only at h
    by_cases he:e1=0
    ·subst he
     rw [if_pos rfl] at h
     obtain ⟨a1,a2⟩:=h1 a j1 rfl
     by_cases hk:aU l (j1:Int) [41]=true
     ·rw [if_pos hk] at h
      simp only [Prod.mk.injEq] at h
      obtain ⟨rfl,_,_⟩:=h
      exact ⟨a1,a2⟩
     ·rw [if_neg hk] at h
      simp at h
    ·rw [if_neg he] at h
     simp only [Prod.mk.injEq] at h
     exact absurd h.2.2 he
   rw [if_neg c5] at h
   by_cases c6:aU l (i:Int) [109,117]=true
   ·rw [if_pos c6] at h
    by_cases c7:(kS l ((i+1:Nat):Int)).2=true
    ·rw [if_pos c7] at h
     by_cases c8:aU l ((i+2:Nat):Int) [123]=true
     ·rw [if_pos c8] at h
      have hck:=aRp c7
      have h1:=(ih (i+3)).2.2.2 []
      generalize aCc l n (i+3) []=g at *
      obtain ⟨c,j1,e1⟩:=g
      simp only at h
      by_cases he:e1=0
      ·subst he
       rw [if_pos rfl] at h
       obtain ⟨a1,a2,a3,a4⟩:=h1 c j1 rfl rfl (by simp)
       by_cases hk:aU l (j1:Int) [125]=true
       ·rw [if_pos hk] at h
        simp only [Prod.mk.injEq] at h
        obtain ⟨rfl,_,_⟩:=h
        exact ⟨bHd hck a1 a2,aQp (by have:=eJ hck; omega) (by simp at a4; omega) a3⟩
       ·rw [if_neg hk] at h
        simp at h
      ·rw [if_neg he] at h
       simp only [Prod.mk.injEq] at h
       exact absurd h.2.2 he
     ·rw [if_neg c8] at h
      simp at h
    ·rw [if_neg c7] at h
     simp at h
   ·rw [if_neg c6] at h
    simp at h
  ·rw [aCc] at h
   by_cases c1:(kS l (i:Int)).2=true
   ·rw [if_pos c1] at h
    have hck:=aRp c1
    by_cases c2:(kS l (i:Int)).1∈out.map nameOf
    ·rw [if_pos c2] at h
     simp at h
    rw [if_neg c2] at h
    generalize (kS l (i:Int)).1=s at *
    by_cases c3:aU l ((i+1:Nat):Int) [111,102]=true
    ·rw [if_pos c3] at h
     have h1:=(ih (i+2)).1
     generalize aBc l n (i+2)=g at *
     obtain ⟨a,j1,e1⟩:=g
     simp only at h
     by_cases he:e1=0
     ·subst he
      rw [if_pos rfl] at h
      obtain ⟨a1,a2⟩:=h1 a j1 rfl
      have hco':jV (isT 8) [] (out++[.node 8 0 s [] [a]])=true:=by
       rw [aQl,hco,bH1 hck a1,List.nil_append,show nameOf (Tr.node 8 0 s [] [a])=s from rfl,decide_eq_false c2]; rfl
      have hgo':∀ x∈out++[Tr.node 8 0 s [] [a]],Good x:=fun x hx=>by
       rcases List.mem_append.1 hx with hx | hx
       ·exact hgo x hx
       ·rw [List.mem_singleton.1 hx]
        exact aQp (by have:=eJ hck; omega) (by simp) (by simp [a2])
      by_cases hk:aU l (j1:Int) [124]=true
      ·rw [if_pos hk] at h
       obtain ⟨b1,b2,b3,b4⟩:=(ih (j1+1)).2.2.2 _ c j h hco' hgo'
       exact ⟨b1,b2,b3,by simp at b4; omega⟩
      ·rw [if_neg hk] at h
       simp only [Prod.mk.injEq] at h
       obtain ⟨rfl,_,_⟩:=h
       exact ⟨hco',by simp,hgo',by simp⟩
     ·rw [if_neg he] at h
      simp only [Prod.mk.injEq] at h
      exact absurd h.2.2 he
    ·rw [if_neg c3] at h
     simp at h
   ·rw [if_neg c1] at h
    simp at h
end
end Go.Proofs.YtjhfgiieicloeaaGreatDoor

/- What is parsed has an expression's form; how long its text, how many its words may be. Printed by gen7/y6.py. -/
namespace Go.Proofs.YtjhfgiieicloeaaGreatDoor
open Go Go.Am Go.Sx
theorem mk2 {k n:Int} {nm mk:List UInt8} {ks:List Tr} {r:Row} (h:sel 2 k=[r]) (hb:dM isT n nm mk ks r=true) (hn:nm.length≤1000) (hm:mk.length≤1000) (hl:ks.length≤1000000) (hk:∀ x∈ks,Good x):isT 2 (.node k n nm mk ks)=true∧Good (.node k n nm mk ks) :=
 ⟨by rw [aP h]; exact hb,.mk (by omega) (by omega) (by omega) hk⟩
section
variable {a b c t:Tr} {s:List UInt8}
theorem aRS (ga:Good a):∀ x∈[a],Good x:=fun x hx=>(List.mem_singleton.1 hx) ▸ ga
theorem aMd (ga:Good a) (gb:Good b):∀ x∈[a,b],Good x:=fun x hx=>by
 rcases List.mem_cons.1 hx with rfl | hx
 ·exact ga
 ·exact (List.mem_singleton.1 hx) ▸ gb
theorem bBX {n:Int} (h:-1073741824≤n∧n≤1073741824):isT 2 (.node 20 n [] [] [])=true∧Good (.node 20 n [] [] []):=by
 refine mk2 (r:=(2,20,[],[],-1073741824,1073741824,[])) rfl ?_ (by simp) (by simp) (by simp) (fun x hx=>by cases hx)
 show (true && (true && (decide (-1073741824≤n) && (decide (n≤1073741824) && true))))=true
 rw [decide_eq_true h.1,decide_eq_true h.2]; rfl
theorem aRz {n:Int} (h:n=0∨n=1):isT 2 (.node 21 n [] [] [])=true∧Good (.node 21 n [] [] []):=by
 refine mk2 (r:=(2,21,[],[],0,1,[])) rfl ?_ (by simp) (by simp) (by simp) (fun x hx=>by cases hx)
 show (true && (true && (decide (0≤n) && (decide (n≤1) && true))))=true
 rw [decide_eq_true (by omega),decide_eq_true (by omega)]; rfl
theorem aZe:isT 2 (.node 22 0 [] [] [])=true∧Good (.node 22 0 [] [] []):=mk2 (r:=(2,22,[],[],0,0,[])) rfl rfl (by simp) (by simp) (by simp) (fun x hx=>by cases hx)
theorem bDp (h:lgS s=true):isT 2 (.node 23 0 s [] [])=true∧Good (.node 23 0 s [] []):=by
 have:=yU h
 refine mk2 (r:=(2,23,[108],[],0,0,[])) rfl ?_ (by omega) (by simp) (by simp) (fun x hx=>by cases hx)
 show (lgS s && true)=true
 rw [h]; rfl
theorem bGX (hs:fH s=true) (ht:isT 1 t=true) (gt:Good t) (hb:isT 2 b=true) (gb:Good b):isT 2 (.node 24 0 s [] [t,b])=true∧Good (.node 24 0 s [] [t,b]):=by
 have:=eJ hs
 refine mk2 (r:=(2,24,[110],[],0,0,[116,101])) rfl ?_ (by omega) (by simp) (by simp) (aMd gt gb)
 show (fH s && (true && (true && (true && (isT 1 t && (isT 2 b && true))))))=true
 rw [hs,ht,hb]; rfl
theorem bGY (ha:isT 2 a=true) (ga:Good a) (hb:isT 2 b=true) (gb:Good b):isT 2 (.node 25 0 [] [] [a,b])=true∧Good (.node 25 0 [] [] [a,b]):=by
 refine mk2 (r:=(2,25,[],[],0,0,[101,101])) rfl ?_ (by simp) (by simp) (by simp) (aMd ga gb)
 show (true && (true && (true && (true && (isT 2 a && (isT 2 b && true))))))=true
 rw [ha,hb]; rfl
theorem bEQ (ha:isT 2 a=true) (ga:Good a) (hb:isT 2 b=true) (gb:Good b):isT 2 (.node 26 0 [] [] [a,b])=true∧Good (.node 26 0 [] [] [a,b]):=by
 refine mk2 (r:=(2,26,[],[],0,0,[101,101])) rfl ?_ (by simp) (by simp) (by simp) (aMd ga gb)
 show (true && (true && (true && (true && (isT 2 a && (isT 2 b && true))))))=true
 rw [ha,hb]; rfl
theorem bGK (ha:isT 2 a=true) (ga:Good a):isT 2 (.node 27 0 [] [] [a])=true∧Good (.node 27 0 [] [] [a]):=by
 refine mk2 (r:=(2,27,[],[],0,0,[101])) rfl ?_ (by simp) (by simp) (by simp) (aRS ga)
 show (true && (true && (true && (true && (isT 2 a && true)))))=true
 rw [ha]; rfl
theorem bHD (ha:isT 2 a=true) (ga:Good a):isT 2 (.node 28 0 [] [] [a])=true∧Good (.node 28 0 [] [] [a]):=by
 refine mk2 (r:=(2,28,[],[],0,0,[101])) rfl ?_ (by simp) (by simp) (by simp) (aRS ga)
 show (true && (true && (true && (true && (isT 2 a && true)))))=true
 rw [ha]; rfl
theorem bHs (hs:fH s=true) (ha:isT 2 a=true) (ga:Good a) (hb:isT 2 b=true) (gb:Good b):isT 2 (.node 29 0 s [] [a,b])=true∧Good (.node 29 0 s [] [a,b]):=by
 have:=eJ hs
 refine mk2 (r:=(2,29,[110],[],0,0,[101,101])) rfl ?_ (by omega) (by simp) (by simp) (aMd ga gb)
 show (fH s && (true && (true && (true && (isT 2 a && (isT 2 b && true))))))=true
 rw [hs,ha,hb]; rfl
theorem bIw (ha:isT 2 a=true) (ga:Good a) (hb:isT 2 b=true) (gb:Good b) (hc:isT 2 c=true) (gc:Good c):isT 2 (.node 30 0 [] [] [a,b,c])=true∧Good (.node 30 0 [] [] [a,b,c]):=by
 refine mk2 (r:=(2,30,[],[],0,0,[101,101,101])) rfl ?_ (by simp) (by simp) (by simp) (fun x hx=>?_)
 ·show (true && (true && (true && (true && (isT 2 a && (isT 2 b && (isT 2 c && true)))))))=true
  rw [ha,hb,hc]; rfl
 ·rcases List.mem_cons.1 hx with rfl | hx
  ·exact ga
  ·exact aMd gb gc x hx
theorem aWs {n:Int} (h:1≤n∧n≤5) (ha:isT 2 a=true) (ga:Good a) (hb:isT 2 b=true) (gb:Good b):isT 2 (opN n a b)=true∧Good (opN n a b):=by
 refine mk2 (r:=(2,31,[],[],1,5,[101,101])) rfl ?_ (by simp) (by simp) (by simp) (aMd ga gb)
 show (true && (true && (decide (1≤n) && (decide (n≤5) && (isT 2 a && (isT 2 b && true))))))=true
 rw [ha,hb,decide_eq_true h.1,decide_eq_true h.2]; rfl
def aYr (r:List Tr):Prop:=∀ y∈r,isT 9 y=true∧Good y
theorem aZx {r:List Tr} (h:aYr r):r.all (isT 9)=true:=List.all_eq_true.2 fun y hy=>(h y hy).1
theorem bEo {r:List Tr} (ha:isT 2 a=true) (ga:Good a) (hr:aYr r) (h0:0<r.length) (hl:r.length≤20000):isT 2 (.node 32 0 [] [] (a :: r))=true∧Good (.node 32 0 [] [] (a :: r)):=by
 refine mk2 (r:=(2,32,[],[],0,0,[101,65])) rfl ?_ (by simp) (by simp) (by simp; omega) (fun x hx=>?_)
 ·show (true && (true && (true && (true && (isT 2 a && (r.all (isT 9) && decide (0<r.length)))))))=true
  rw [ha,aZx hr,decide_eq_true h0]; rfl
 ·rcases List.mem_cons.1 hx with rfl | hx
  ·exact ga
  ·exact (hr x hx).2
theorem bED {r:List Tr} (ha:isT 2 a=true) (ga:Good a) (ht:isT 1 t=true) (gt:Good t) (hr:aYr r) (h0:0<r.length) (hl:r.length≤20000):isT 2 (.node 33 0 [] [] (a :: t :: r))=true∧Good (.node 33 0 [] [] (a :: t :: r)):=by
 refine mk2 (r:=(2,33,[],[],0,0,[101,116,65])) rfl ?_ (by simp) (by simp) (by simp; omega) (fun x hx=>?_)
 ·show (true && (true && (true && (true && (isT 2 a && (isT 1 t && (r.all (isT 9) && decide (0<r.length))))))))=true
  rw [ha,ht,aZx hr,decide_eq_true h0]; rfl
 ·rcases List.mem_cons.1 hx with rfl | hx
  ·exact ga
  ·rcases List.mem_cons.1 hx with rfl | hx
   ·exact gt
   ·exact (hr x hx).2
theorem bGP {x:List UInt8} (hs:fH s=true) (hx:fH x=true) (ha:isT 2 a=true) (ga:Good a):isT 9 (.node 34 0 s x [a])=true∧Good (.node 34 0 s x [a]):=by
 have:=eJ hs
 have:=eJ hx
 refine ⟨?_,.mk (by omega) (by omega) (by simp) (aRS ga)⟩
 rw [aP (r:=(9,34,[110],[110],0,0,[101])) rfl]
 show (fH s && (fH x && (true && (true && (isT 2 a && true)))))=true
 rw [hs,hx,ha]; rfl
end
theorem rG {α:Type} {a:α} {j:Nat} {p:α→Nat→Prop} (h:p a j):Yes (a,j,0) p:=fun _=>h
theorem aXh {n:Int} {a b:Tr}:tl (opN n a b)=30+tl a+tl b:=by unfold opN; rw [bL (by decide),aM,aM,bO]; simp; omega
theorem aWJ {n:Int} {a b:Tr}:wc (opN n a b)=8+wc a+wc b:=by unfold opN; rw [fC (by decide) (by decide),aY,aY,cK]; omega
def FE (i0:Nat) (t:Tr) (j:Nat):Prop:=isT 2 t=true∧Good t∧tl t+36+200 * i0≤200 * j∧wc t+8+12 * i0≤12 * j
def FT (i0:Nat) (t:Tr) (j:Nat):Prop:=isT 1 t=true∧Good t∧200 * t.w+200 * i0≤200 * j∧8 * t.w+8 * i0≤8 * j
def FA (i0:Nat) (out r:List Tr) (j:Nat):Prop:=aYr r∧out.length<r.length∧tlL r+200 * i0≤tlL out+200 * j∧(wcL r+12 * i0≤wcL out+12 * j∧r.length+i0≤out.length+j)
theorem aZi:∀ (a b:List Tr),tlL (a++b)=tlL a+tlL b
 | [],b=>by rw [bO]; simp
 | x :: a,b=>by rw [List.cons_append,aM,aM,aZi a b]; omega
theorem aZd:∀ (a b:List Tr),wcL (a++b)=wcL a+wcL b
 | [],b=>by rw [cK]; simp
 | x :: a,b=>by rw [List.cons_append,aY,aY,aZd a b]; omega
theorem aD2 {l:List aF} {i:Nat} (h:(tW l i).2.2=0):fH (tW l i).1=true:=by
 unfold tW at h ⊢
 by_cases hk:(kS l (i:Int)).2=true
 ·rw [if_pos hk]; exact aRp hk
 ·rw [if_neg hk] at h; exact absurd (show (6:Int)=0 from h) (by decide)
section
variable {l:List aF} (hl:l.length≤20000)
include hl
theorem bB8 {i:Nat} (hi:i≤l.length):Yes (tyR l i) (FT i):=by
 intro h
 obtain ⟨h2,h3⟩:=bFq hl hi
 have hf:=(bCI l (3 * l.length+3) (by omega) i).1
 unfold tyR at h ⊢
 generalize aBc l (3 * l.length+3) i=g at *
 obtain ⟨t,j,e⟩:=g
 have h:e=0:=h
 subst h
 obtain ⟨f1,f2⟩:=hf t j rfl
 have:=(h3 rfl).2
 exact ⟨f1,f2,by simp only at *; omega,by simp only at *; omega⟩
theorem bI6:∀ n i,i≤l.length→Yes (dZ l n i) (FE i)∧(∀ out,aYr out→out.length≤i→Yes (vJ l n out i) (FA i out))∧Yes (aLB l n i) (FE i)∧Yes (aBo l n i) (FE i)∧(∀ i0 a,FE i0 a i→Yes (aAX l n a i) (FE i0)) ∧
  Yes (qN l n i) (FE i)∧(∀ i0 a,FE i0 a i→Yes (tH l n a i) (FE i0))∧Yes (aEd l n i) (FE i)∧(∀ i0 a,FE i0 a i→Yes (aBZ l n a i) (FE i0))∧Yes (lC l n i) (FE i):=by
 intro n
 induction n with
 | zero =>
  intro i hi
  have no:∀ {α:Type} {d:α} {j:Nat} {p:α→Nat→Prop},Yes (d,j,6) p:=fun h=>absurd (show (6:Int)=0 from h) (by decide)
  refine ⟨?_,fun out _ _=>?_,?_,?_,fun i0 a _=>?_,?_,fun i0 a _=>?_,?_,fun i0 a _=>?_,?_⟩
  ·rw [dZ]; exact no
  ·rw [vJ]; exact no
  ·rw [aLB]; exact no
  ·rw [aBo]; exact no
  ·rw [aAX]; exact no
  ·rw [qN]; exact no
  ·rw [tH]; exact no
  ·rw [aEd]; exact no
  ·rw [aBZ]; exact no
  ·rw [lC]; exact no
 | succ n ih =>
  intro i hi
  have ihE:∀ j,j≤l.length→Yes (dZ l n j) (FE j):=fun j h=>(ih j h).1
  have ihA:∀ j,j≤l.length→∀ out,aYr out→out.length≤j→Yes (vJ l n out j) (FA j out):=fun j h=>(ih j h).2.1
  have ihC:∀ j,j≤l.length→Yes (aLB l n j) (FE j):=fun j h=>(ih j h).2.2.1
  have ihS:∀ j,j≤l.length→Yes (aBo l n j) (FE j):=fun j h=>(ih j h).2.2.2.1
  have ihSL:∀ j,j≤l.length→∀ i0 a,FE i0 a j→Yes (aAX l n a j) (FE i0):=fun j h=>(ih j h).2.2.2.2.1
  have ihT:∀ j,j≤l.length→Yes (qN l n j) (FE j):=fun j h=>(ih j h).2.2.2.2.2.1
  have ihTL:∀ j,j≤l.length→∀ i0 a,FE i0 a j→Yes (tH l n a j) (FE i0):=fun j h=>(ih j h).2.2.2.2.2.2.1
  have ihP:∀ j,j≤l.length→Yes (aEd l n j) (FE j):=fun j h=>(ih j h).2.2.2.2.2.2.2.1
  have ihPL:∀ j,j≤l.length→∀ i0 a,FE i0 a j→Yes (aBZ l n a j) (FE i0):=fun j h=>(ih j h).2.2.2.2.2.2.2.2.1
  have ihO:∀ j,j≤l.length→Yes (lC l n j) (FE j):=fun j h=>(ih j h).2.2.2.2.2.2.2.2.2
  refine ⟨?_,fun out ho hol=>?_,?_,?_,fun i0 a hfa=>?_,?_,fun i0 a hfa=>?_,?_,fun i0 a hfa=>?_,?_⟩
  ·rw [dZ]
   by_cases k_fn:aU l (i:Int) [102,110]=true
   ·rw [if_pos k_fn]
    have hin:=aN k_fn
    have b:=bX l [[40]] (i+1) (by omega)
    generalize ks l [[40]] (i+1)=g1 at *
    obtain ⟨g1a,g1b⟩:=b
    refine aL fun h1=>?_
    have b:=iJ (l:=l) (i:=g1.2.1) (by omega)
    have sN:=oZ (l:=l) (i:=g1.2.1)
    have cN:=aD2 (l:=l) (i:=g1.2.1)
    generalize tW l (g1.2.1)=g2 at *
    obtain ⟨g2a,g2b⟩:=b
    refine aL fun h2=>?_
    have sN:=sN h2
    have c2:=cN h2
    have n2:=eJ c2
    have b:=bX l [[58]] (g2.2.1) (by omega)
    generalize ks l [[58]] (g2.2.1)=g3 at *
    obtain ⟨g3a,g3b⟩:=b
    refine aL fun h3=>?_
    have b:=zT hl (i:=g3.2.1) (by omega)
    have f:=bB8 hl (i:=g3.2.1) (by omega)
    generalize tyR l (g3.2.1)=g4 at *
    obtain ⟨g4a,g4b,_⟩:=b
    refine aL fun h4=>?_
    obtain ⟨g4t,g4g,g4l,g4w⟩:=f h4
    have b:=bX l [[41],[61,62]] (g4.2.1) (by omega)
    generalize ks l [[41],[61,62]] (g4.2.1)=g5 at *
    obtain ⟨g5a,g5b⟩:=b
    refine aL fun h5=>?_
    have b:=eI hl n (g5.2.1) (by omega)
    have f:=ihE (g5.2.1) (by omega)
    generalize dZ l n (g5.2.1)=g6 at *
    obtain ⟨g6a,g6b,_⟩:=b
    refine aL fun h6=>?_
    obtain ⟨g6t,g6g,g6l,g6w⟩:=f h6
    have m:=bGX c2 g4t g4g g6t g6g
    exact rG ⟨m.1,m.2,by rw [bL (by decide),aM,aM,bO,aSA g4t]; simp only [List.length_nil]; omega,by rw [fC (by decide) (by decide),aY,aY,cK,aW1 g4t]; omega⟩
   rw [if_neg k_fn]
   by_cases k_let:aU l (i:Int) [108,101,116]=true
   ·rw [if_pos k_let]
    have hin:=aN k_let
    have b:=iJ (l:=l) (i:=i+1) (by omega)
    have sN:=oZ (l:=l) (i:=i+1)
    have cN:=aD2 (l:=l) (i:=i+1)
    generalize tW l (i+1)=g1 at *
    obtain ⟨g1a,g1b⟩:=b
    refine aL fun h1=>?_
    have sN:=sN h1
    have c1:=cN h1
    have n1:=eJ c1
    have b:=bX l [[61]] (g1.2.1) (by omega)
    generalize ks l [[61]] (g1.2.1)=g2 at *
    obtain ⟨g2a,g2b⟩:=b
    refine aL fun h2=>?_
    have b:=eI hl n (g2.2.1) (by omega)
    have f:=ihE (g2.2.1) (by omega)
    generalize dZ l n (g2.2.1)=g3 at *
    obtain ⟨g3a,g3b,_⟩:=b
    refine aL fun h3=>?_
    obtain ⟨g3t,g3g,g3l,g3w⟩:=f h3
    have b:=bX l [[105,110]] (g3.2.1) (by omega)
    generalize ks l [[105,110]] (g3.2.1)=g4 at *
    obtain ⟨g4a,g4b⟩:=b
    refine aL fun h4=>?_
    have b:=eI hl n (g4.2.1) (by omega)
    have f:=ihE (g4.2.1) (by omega)
    generalize dZ l n (g4.2.1)=g5 at *
    obtain ⟨g5a,g5b,_⟩:=b
    refine aL fun h5=>?_
    obtain ⟨g5t,g5g,g5l,g5w⟩:=f h5
    have b:=bX l [[101,110,100]] (g5.2.1) (by omega)
    generalize ks l [[101,110,100]] (g5.2.1)=g6 at *
    obtain ⟨g6a,g6b⟩:=b
    refine aL fun h6=>?_
    have m:=bHs c1 g3t g3g g5t g5g
    exact rG ⟨m.1,m.2,by rw [bL (by decide),aM,aM,bO]; simp only [List.length_nil]; omega,by rw [fC (by decide) (by decide),aY,aY,cK]; omega⟩
   rw [if_neg k_let]
   by_cases k_if:aU l (i:Int) [105,102]=true
   ·rw [if_pos k_if]
    have hin:=aN k_if
    have b:=eI hl n (i+1) (by omega)
    have f:=ihE (i+1) (by omega)
    generalize dZ l n (i+1)=g1 at *
    obtain ⟨g1a,g1b,_⟩:=b
    refine aL fun h1=>?_
    obtain ⟨g1t,g1g,g1l,g1w⟩:=f h1
    have b:=bX l [[116,104,101,110]] (g1.2.1) (by omega)
    generalize ks l [[116,104,101,110]] (g1.2.1)=g2 at *
    obtain ⟨g2a,g2b⟩:=b
    refine aL fun h2=>?_
    have b:=eI hl n (g2.2.1) (by omega)
    have f:=ihE (g2.2.1) (by omega)
    generalize dZ l n (g2.2.1)=g3 at *
    obtain ⟨g3a,g3b,_⟩:=b
    refine aL fun h3=>?_
    obtain ⟨g3t,g3g,g3l,g3w⟩:=f h3
    have b:=bX l [[101,108,115,101]] (g3.2.1) (by omega)
    generalize ks l [[101,108,115,101]] (g3.2.1)=g4 at *
    obtain ⟨g4a,g4b⟩:=b
    refine aL fun h4=>?_
    have b:=eI hl n (g4.2.1) (by omega)
    have f:=ihE (g4.2.1) (by omega)
    generalize dZ l n (g4.2.1)=g5 at *
    obtain ⟨g5a,g5b,_⟩:=b
    refine aL fun h5=>?_
    obtain ⟨g5t,g5g,g5l,g5w⟩:=f h5
    have m:=bIw g1t g1g g3t g3g g5t g5g
    exact rG ⟨m.1,m.2,by rw [bL (by decide),aM,aM,aM,bO]; simp only [List.length_nil]; omega,by rw [fC (by decide) (by decide),aY,aY,aY,cK]; omega⟩
   rw [if_neg k_if]
   by_cases k_case:aU l (i:Int) [99,97,115,101]=true
   ·rw [if_pos k_case]
    have hin:=aN k_case
    have b:=eI hl n (i+1) (by omega)
    have f:=ihE (i+1) (by omega)
    generalize dZ l n (i+1)=g1 at *
    obtain ⟨g1a,g1b,_⟩:=b
    refine aL fun h1=>?_
    obtain ⟨g1t,g1g,g1l,g1w⟩:=f h1
    have b:=bX l [[111,102]] (g1.2.1) (by omega)
    generalize ks l [[111,102]] (g1.2.1)=g2 at *
    obtain ⟨g2a,g2b⟩:=b
    refine aL fun h2=>?_
    have b:=aIe hl n [] (g2.2.1) (by omega)
    have f:=ihA (g2.2.1) (by omega) [] (fun y hy=>by cases hy) (by simp)
    generalize vJ l n [] (g2.2.1)=g3 at *
    obtain ⟨g3a,g3b,_⟩:=b
    refine aL fun h3=>?_
    obtain ⟨g3t,g3n,g3l,g3w,g3m⟩:=f h3
    rw [List.length_nil] at g3m
    rw [bO] at g3l
    rw [cK] at g3w
    rw [List.length_nil] at g3n
    have m:=bEo g1t g1g g3t (by omega) (by omega)
    exact rG ⟨m.1,m.2,by rw [bL (by decide),aM]; simp only [List.length_nil]; omega,by rw [fC (by decide) (by decide),aY]; omega⟩
   rw [if_neg k_case]
   by_cases k_fold:aU l (i:Int) [102,111,108,100]=true
   ·rw [if_pos k_fold]
    have hin:=aN k_fold
    have b:=eI hl n (i+1) (by omega)
    have f:=ihE (i+1) (by omega)
    generalize dZ l n (i+1)=g1 at *
    obtain ⟨g1a,g1b,_⟩:=b
    refine aL fun h1=>?_
    obtain ⟨g1t,g1g,g1l,g1w⟩:=f h1
    have b:=bX l [[116,111]] (g1.2.1) (by omega)
    generalize ks l [[116,111]] (g1.2.1)=g2 at *
    obtain ⟨g2a,g2b⟩:=b
    refine aL fun h2=>?_
    have b:=zT hl (i:=g2.2.1) (by omega)
    have f:=bB8 hl (i:=g2.2.1) (by omega)
    generalize tyR l (g2.2.1)=g3 at *
    obtain ⟨g3a,g3b,_⟩:=b
    refine aL fun h3=>?_
    obtain ⟨g3t,g3g,g3l,g3w⟩:=f h3
    have b:=bX l [[111,102]] (g3.2.1) (by omega)
    generalize ks l [[111,102]] (g3.2.1)=g4 at *
    obtain ⟨g4a,g4b⟩:=b
    refine aL fun h4=>?_
    have b:=aIe hl n [] (g4.2.1) (by omega)
    have f:=ihA (g4.2.1) (by omega) [] (fun y hy=>by cases hy) (by simp)
    generalize vJ l n [] (g4.2.1)=g5 at *
    obtain ⟨g5a,g5b,_⟩:=b
    refine aL fun h5=>?_
    obtain ⟨g5t,g5n,g5l,g5w,g5m⟩:=f h5
    rw [List.length_nil] at g5m
    rw [bO] at g5l
    rw [cK] at g5w
    rw [List.length_nil] at g5n
    have m:=bED g1t g1g g3t g3g g5t (by omega) (by omega)
    exact rG ⟨m.1,m.2,by rw [bL (by decide),aM,aM,aSA g3t]; simp only [List.length_nil]; omega,by rw [fC (by decide) (by decide),aY,aY,aW1 g3t]; omega⟩
   rw [if_neg k_fold]
   exact ihC i hi
  ·rw [vJ]
   have b:=iJ (l:=l) (i:=i) (by omega)
   have sN:=oZ (l:=l) (i:=i)
   have cN:=aD2 (l:=l) (i:=i)
   generalize tW l (i)=g1 at *
   obtain ⟨g1a,g1b⟩:=b
   refine aL fun h1=>?_
   have sN:=sN h1
   have c1:=cN h1
   have n1:=eJ c1
   have b:=iJ (l:=l) (i:=g1.2.1) (by omega)
   have sN:=oZ (l:=l) (i:=g1.2.1)
   have cN:=aD2 (l:=l) (i:=g1.2.1)
   generalize tW l (g1.2.1)=g2 at *
   obtain ⟨g2a,g2b⟩:=b
   refine aL fun h2=>?_
   have sN:=sN h2
   have c2:=cN h2
   have n2:=eJ c2
   have b:=bX l [[61,62]] (g2.2.1) (by omega)
   generalize ks l [[61,62]] (g2.2.1)=g3 at *
   obtain ⟨g3a,g3b⟩:=b
   refine aL fun h3=>?_
   have b:=eI hl n (g3.2.1) (by omega)
   have f:=ihE (g3.2.1) (by omega)
   generalize dZ l n (g3.2.1)=g4 at *
   obtain ⟨g4a,g4b,_⟩:=b
   refine aL fun h4=>?_
   obtain ⟨g4t,g4g,g4l,g4w⟩:=f h4
   have m:=bGP c1 c2 g4t g4g
   have harm:aYr (out++[.node 34 0 g1.1 g2.1 [g4.1]]):=fun y hy=>by
    rcases List.mem_append.1 hy with hy | hy
    ·exact ho y hy
    ·rw [List.mem_singleton.1 hy]; exact m
   have hlen:(out++[Tr.node 34 0 g1.1 g2.1 [g4.1]]).length=out.length+1:=by simp
   have ht:tlL (out++[.node 34 0 g1.1 g2.1 [g4.1]])=tlL out+(30+(g1.1.length+g2.1.length)+tl g4.1):=by rw [aZi,aM,bO,bL (by decide),aM,bO]; omega
   have hw:wcL (out++[.node 34 0 g1.1 g2.1 [g4.1]])=wcL out+(8+wc g4.1):=by rw [aZd,aY,cK,fC (by decide) (by decide),aY,cK]; omega
   by_cases kb:aU l (g4.2.1:Int) [124]=true
   ·rw [if_pos kb]
    have hin:=aN kb
    have f:=ihA (g4.2.1+1) (by omega) _ harm (by omega)
    intro h
    obtain ⟨f1,f2,f3,f4,f5⟩:=f h
    exact ⟨f1,by omega,by omega,by omega,by omega⟩
   ·rw [if_neg kb]
    have b:=bX l [[101,110,100]] g4.2.1 (by omega)
    generalize ks l [[101,110,100]] g4.2.1=g5 at *
    obtain ⟨g5a,g5b⟩:=b
    refine aL fun h5=>?_
    exact rG ⟨harm,by omega,by omega,by omega,by omega⟩
  ·rw [aLB]
   have b:=aEx hl n (i) (by omega)
   have f:=ihS (i) (by omega)
   generalize aBo l n (i)=g1 at *
   obtain ⟨g1a,g1b,_⟩:=b
   refine aL fun h1=>?_
   obtain ⟨g1t,g1g,g1l,g1w⟩:=f h1
   by_cases k4:aU l (g1.2.1:Int) [61]=true
   ·rw [if_pos k4]
    have hin:=aN k4
    have b:=aEx hl n (g1.2.1+1) (by omega)
    have f:=ihS (g1.2.1+1) (by omega)
    generalize aBo l n (g1.2.1+1)=g2 at *
    obtain ⟨g2a,g2b,_⟩:=b
    refine aL fun h2=>?_
    obtain ⟨g2t,g2g,g2l,g2w⟩:=f h2
    have m:=aWs (n:=4) (by decide) g1t g1g g2t g2g
    exact rG ⟨m.1,m.2,by rw [aXh]; omega,by rw [aWJ]; omega⟩
   rw [if_neg k4]
   by_cases k5:aU l (g1.2.1:Int) [60]=true
   ·rw [if_pos k5]
    have hin:=aN k5
    have b:=aEx hl n (g1.2.1+1) (by omega)
    have f:=ihS (g1.2.1+1) (by omega)
    generalize aBo l n (g1.2.1+1)=g2 at *
    obtain ⟨g2a,g2b,_⟩:=b
    refine aL fun h2=>?_
    obtain ⟨g2t,g2g,g2l,g2w⟩:=f h2
    have m:=aWs (n:=5) (by decide) g1t g1g g2t g2g
    exact rG ⟨m.1,m.2,by rw [aXh]; omega,by rw [aWJ]; omega⟩
   rw [if_neg k5]
   exact rG ⟨g1t,g1g,g1l,g1w⟩
  ·rw [aBo]
   have b:=aCK hl n (i) (by omega)
   have f:=ihT (i) (by omega)
   generalize qN l n (i)=g1 at *
   obtain ⟨g1a,g1b,_⟩:=b
   refine aL fun h1=>?_
   obtain ⟨g1t,g1g,g1l,g1w⟩:=f h1
   exact ihSL g1.2.1 (by omega) i g1.1 ⟨g1t,g1g,g1l,g1w⟩
  ·rw [aAX]
   obtain ⟨a1,a2,a3,a4⟩:=hfa
   by_cases k0:aU l (i:Int) [43]=true
   ·rw [if_pos k0]
    have hin:=aN k0
    have b:=aCK hl n (i+1) (by omega)
    have f:=ihT (i+1) (by omega)
    generalize qN l n (i+1)=g1 at *
    obtain ⟨g1a,g1b,_⟩:=b
    refine aL fun h1=>?_
    obtain ⟨g1t,g1g,g1l,g1w⟩:=f h1
    have m:=aWs (n:=1) (by decide) a1 a2 g1t g1g
    exact ihSL g1.2.1 (by omega) i0 _ ⟨m.1,m.2,by rw [aXh]; omega,by rw [aWJ]; omega⟩
   rw [if_neg k0]
   by_cases k1:aU l (i:Int) [45]=true
   ·rw [if_pos k1]
    have hin:=aN k1
    have b:=aCK hl n (i+1) (by omega)
    have f:=ihT (i+1) (by omega)
    generalize qN l n (i+1)=g1 at *
    obtain ⟨g1a,g1b,_⟩:=b
    refine aL fun h1=>?_
    obtain ⟨g1t,g1g,g1l,g1w⟩:=f h1
    have m:=aWs (n:=2) (by decide) a1 a2 g1t g1g
    exact ihSL g1.2.1 (by omega) i0 _ ⟨m.1,m.2,by rw [aXh]; omega,by rw [aWJ]; omega⟩
   rw [if_neg k1]
   exact rG ⟨a1,a2,a3,a4⟩
  ·rw [qN]
   have b:=aK8 hl n (i) (by omega)
   have f:=ihP (i) (by omega)
   generalize aEd l n (i)=g1 at *
   obtain ⟨g1a,g1b,_⟩:=b
   refine aL fun h1=>?_
   obtain ⟨g1t,g1g,g1l,g1w⟩:=f h1
   exact ihTL g1.2.1 (by omega) i g1.1 ⟨g1t,g1g,g1l,g1w⟩
  ·rw [tH]
   obtain ⟨a1,a2,a3,a4⟩:=hfa
   by_cases k0:aU l (i:Int) [42]=true
   ·rw [if_pos k0]
    have hin:=aN k0
    have b:=aK8 hl n (i+1) (by omega)
    have f:=ihP (i+1) (by omega)
    generalize aEd l n (i+1)=g1 at *
    obtain ⟨g1a,g1b,_⟩:=b
    refine aL fun h1=>?_
    obtain ⟨g1t,g1g,g1l,g1w⟩:=f h1
    have m:=aWs (n:=3) (by decide) a1 a2 g1t g1g
    exact ihTL g1.2.1 (by omega) i0 _ ⟨m.1,m.2,by rw [aXh]; omega,by rw [aWJ]; omega⟩
   rw [if_neg k0]
   exact rG ⟨a1,a2,a3,a4⟩
  ·rw [aEd]
   have b:=wT hl n (i) (by omega)
   have f:=ihO (i) (by omega)
   generalize lC l n (i)=g1 at *
   obtain ⟨g1a,g1b,_⟩:=b
   refine aL fun h1=>?_
   obtain ⟨g1t,g1g,g1l,g1w⟩:=f h1
   exact ihPL g1.2.1 (by omega) i g1.1 ⟨g1t,g1g,g1l,g1w⟩
  ·rw [aBZ]
   obtain ⟨a1,a2,a3,a4⟩:=hfa
   by_cases k0:stS l i=true
   ·rw [if_pos k0]
    have hin:=aTb k0
    have b:=wT hl n (i) (by omega)
    have f:=ihO (i) (by omega)
    generalize lC l n (i)=g1 at *
    obtain ⟨g1a,g1b,_⟩:=b
    refine aL fun h1=>?_
    obtain ⟨g1t,g1g,g1l,g1w⟩:=f h1
    have m:=bGY a1 a2 g1t g1g
    exact ihPL g1.2.1 (by omega) i0 _ ⟨m.1,m.2,by rw [bL (by decide),aM,aM,bO]; simp only [List.length_nil]; omega,by rw [fC (by decide) (by decide),aY,aY,cK]; omega⟩
   rw [if_neg k0]
   exact rG ⟨a1,a2,a3,a4⟩
  ·rw [lC]
   by_cases ks0:stS l i=true
   ·rw [if_pos ks0]
    have hin:=aTb ks0
    obtain ⟨k,_,_,hk⟩:=aDd (l:=l) (i:=(i:Int)) (by omega)
    unfold stS at ks0
    rw [hk] at ks0 ⊢
    simp only at ks0 ⊢
    by_cases c0:k.1=2
    ·rw [if_pos c0]
     rw [if_neg (by omega),if_pos c0,Bool.and_eq_true] at ks0
     have hb:-1073741824≤k.2.2.1∧k.2.2.1≤1073741824:=⟨of_decide_eq_true ks0.1,of_decide_eq_true ks0.2⟩
     exact rG ⟨(bBX hb).1,(bBX hb).2,by rw [bL (by decide),bO]; simp only [List.length_nil]; omega,by rw [xZ (by decide) (by decide),cK]; omega⟩
    rw [if_neg c0]
    by_cases c1:k.1=1
    ·rw [if_pos c1]
     rw [if_neg (by omega),if_neg c0,Bool.and_eq_true] at ks0
     have hn:=yU ks0.2
     exact rG ⟨(bDp ks0.2).1,(bDp ks0.2).2,by rw [bL (by decide),bO]; simp only [List.length_nil]; omega,by rw [xZ (by decide) (by decide),cK]; omega⟩
    rw [if_neg c1]
    by_cases c2:k.2.1=[116,114,117,101]
    ·rw [if_pos c2]
     exact rG ⟨(aRz (.inr rfl)).1,(aRz (.inr rfl)).2,by rw [bL (by decide),bO]; simp only [List.length_nil]; omega,by rw [xZ (by decide) (by decide),cK]; omega⟩
    rw [if_neg c2]
    by_cases c3:k.2.1=[102,97,108,115,101]
    ·rw [if_pos c3]
     exact rG ⟨(aRz (.inl rfl)).1,(aRz (.inl rfl)).2,by rw [bL (by decide),bO]; simp only [List.length_nil]; omega,by rw [xZ (by decide) (by decide),cK]; omega⟩
    rw [if_neg c3]
    by_cases c4:k.2.1=[35,49]
    ·rw [if_pos c4]
     have b:=wT hl n (i+1) (by omega)
     have f:=ihO (i+1) (by omega)
     generalize lC l n (i+1)=g1 at *
     obtain ⟨g1a,g1b,_⟩:=b
     refine aL fun h1=>?_
     obtain ⟨g1t,g1g,g1l,g1w⟩:=f h1
     have m:=bGK g1t g1g
     exact rG ⟨m.1,m.2,by rw [bL (by decide),aM,bO]; simp only [List.length_nil]; omega,by rw [fC (by decide) (by decide),aY,cK]; omega⟩
    rw [if_neg c4]
    by_cases c5:k.2.1=[35,50]
    ·rw [if_pos c5]
     have b:=wT hl n (i+1) (by omega)
     have f:=ihO (i+1) (by omega)
     generalize lC l n (i+1)=g1 at *
     obtain ⟨g1a,g1b,_⟩:=b
     refine aL fun h1=>?_
     obtain ⟨g1t,g1g,g1l,g1w⟩:=f h1
     have m:=bHD g1t g1g
     exact rG ⟨m.1,m.2,by rw [bL (by decide),aM,bO]; simp only [List.length_nil]; omega,by rw [fC (by decide) (by decide),aY,cK]; omega⟩
    rw [if_neg c5]
    by_cases c6:aU l ((i+1:Nat):Int) [41]=true
    ·rw [if_pos c6]
     exact rG ⟨(aZe).1,(aZe).2,by rw [bL (by decide),bO]; simp only [List.length_nil]; omega,by rw [xZ (by decide) (by decide),cK]; omega⟩
    rw [if_neg c6]
    have b:=eI hl n (i+1) (by omega)
    have f:=ihE (i+1) (by omega)
    generalize dZ l n (i+1)=g1 at *
    obtain ⟨g1a,g1b,_⟩:=b
    refine aL fun h1=>?_
    obtain ⟨g1t,g1g,g1l,g1w⟩:=f h1
    by_cases c7:aU l (g1.2.1:Int) [44]=true
    ·rw [if_pos c7]
     have hin7:=aN c7
     have b:=eI hl n (g1.2.1+1) (by omega)
     have f:=ihE (g1.2.1+1) (by omega)
     generalize dZ l n (g1.2.1+1)=g2 at *
     obtain ⟨g2a,g2b,_⟩:=b
     refine aL fun h2=>?_
     obtain ⟨g2t,g2g,g2l,g2w⟩:=f h2
     have b:=bX l [[41]] (g2.2.1) (by omega)
     generalize ks l [[41]] (g2.2.1)=g3 at *
     obtain ⟨g3a,g3b⟩:=b
     refine aL fun h3=>?_
     have m:=bEQ g1t g1g g2t g2g
     exact rG ⟨m.1,m.2,by rw [bL (by decide),aM,aM,bO]; simp only [List.length_nil]; omega,by rw [fC (by decide) (by decide),aY,aY,cK]; omega⟩
    rw [if_neg c7]
    have b:=bX l [[41]] (g1.2.1) (by omega)
    generalize ks l [[41]] (g1.2.1)=g2 at *
    obtain ⟨g2a,g2b⟩:=b
    refine aL fun h2=>?_
    exact rG ⟨g1t,g1g,by omega,by omega⟩
   ·rw [if_neg ks0]; exact fun h=>absurd (show (6:Int)=0 from h) (by decide)
end
end Go.Proofs.YtjhfgiieicloeaaGreatDoor

/- What is parsed has a form: modules, signatures, specifications, declarations. Printed by gen8/m6.py. -/
namespace Go.Proofs.YtjhfgiieicloeaaGreatDoor
open Go Go.Am Go.Sx
def OkT (c:Int) (t:Tr):Prop:=isT c t=true∧Good t
def OkD (top:Bool) (t:Tr):Prop:=OkT 6 t∧(top=false→kindOf t≠74∧kindOf t≠75)
theorem kd {k n:Int} {nm mk:List UInt8} {ks:List Tr} (h:k≠74∧k≠75):kindOf (.node k n nm mk ks)≠74∧kindOf (.node k n nm mk ks)≠75:=h
def OkC (c:List Tr):Prop:=jV (isT 8) [] c=true∧c≠[]∧(∀ x∈c,Good x)∧c.length≤100000
theorem ok1 {c k n:Int} {nm mk:List UInt8} {ks:List Tr} {r:Row} (h:sel c k=[r]) (hb:dM isT n nm mk ks r=true) (hn:nm.length≤1000) (hm:mk.length≤1000) (hl:ks.length≤1000000) (hk:∀ x∈ks,Good x):OkT c (.node k n nm mk ks) :=
 ⟨by rw [aP h]; exact hb,.mk (by omega) (by omega) (by omega) hk⟩
theorem ok2 {c k n:Int} {nm mk:List UInt8} {ks:List Tr} {r r':Row} (h:sel c k=[r,r']) (hb:dM isT n nm mk ks r=true∨dM isT n nm mk ks r'=true) (hn:nm.length≤1000) (hm:mk.length≤1000) (hl:ks.length≤1000000) (hk:∀ x∈ks,Good x):OkT c (.node k n nm mk ks) :=
 ⟨by rw [aJA h]; rcases hb with hb | hb <;> rw [hb] <;> simp,.mk (by omega) (by omega) (by omega) hk⟩
section
variable {a b:Tr} {s x:List UInt8} {ks:List Tr}
theorem aZo {n:Int} (hn:n=0∨n=1) (ha:OkT 3 a) (hb:OkT 4 b):OkT 3 (.node 43 n [] [] [a,b]):=by
 refine ok1 (r:=(3,43,[],[],0,1,[109,115])) rfl ?_ (by simp) (by simp) (by simp) (aMd ha.2 hb.2)
 show (true && (true && (decide (0≤n) && (decide (n≤1) && (isT 3 a && (isT 4 b && true))))))=true
 rw [ha.1,hb.1,decide_eq_true (by omega),decide_eq_true (by omega)]; rfl
theorem bAC {r:List Tr} (h:∀ x∈r,OkD false x):r.all (fun x=>isT 6 x && aGY 105 x)=true:=List.all_eq_true.2 fun y hy=>by
 obtain ⟨h1,h2⟩:=h y hy
 obtain ⟨h2,h3⟩:=h2 rfl
 unfold aGY
 rw [h1.1,decide_eq_false h2,decide_eq_false h3]; rfl
theorem bGa (h:∀ x∈ks,OkD false x) (hl:ks.length≤1000000):OkT 3 (.node 40 0 [] [] ks):=by
 refine ok1 (r:=(3,40,[],[],0,0,[42,105])) rfl ?_ (by simp) (by simp) hl (fun x hx=>(h x hx).1.2)
 show (true && (true && (true && (true && ks.all (fun x=>isT 6 x && aGY 105 x)))))=true
 rw [bAC h]; rfl
theorem bBT {r:List Tr} (h:∀ x∈r,OkD true x):r.all (fun x=>isT 6 x && aGY 100 x)=true:=List.all_eq_true.2 fun y hy=>by
 rw [(h y hy).1.1]; rfl
theorem bD4 (h:∀ x∈ks,OkD true x) (hl:ks.length≤1000000):OkT 7 (.node 80 0 [] [] ks):=by
 refine ok1 (r:=(7,80,[],[],0,0,[42,100])) rfl ?_ (by simp) (by simp) hl (fun x hx=>(h x hx).1.2)
 show (true && (true && (true && (true && ks.all (fun x=>isT 6 x && aGY 100 x)))))=true
 rw [bBT h]; rfl
theorem bBZ {r:List Tr} (h:∀ x∈r,OkT 5 x):r.all (fun x=>isT 5 x && aGY 112 x)=true:=List.all_eq_true.2 fun y hy=>by
 rw [(h y hy).1]; rfl
theorem bEK (h:∀ x∈ks,OkT 5 x) (hl:ks.length≤1000000):OkT 4 (.node 50 0 [] [] ks):=by
 refine ok1 (r:=(4,50,[],[],0,0,[42,112])) rfl ?_ (by simp) (by simp) hl (fun x hx=>(h x hx).2)
 show (true && (true && (true && (true && ks.all (fun x=>isT 5 x && aGY 112 x)))))=true
 rw [bBZ h]; rfl
theorem bBg (hs:lgS s=true) (ha:OkT 4 a) (hb:OkT 1 b):OkT 4 (.node 52 0 s [] [a,b]):=by
 have:=yU hs
 refine ok1 (r:=(4,52,[108],[],0,0,[115,116])) rfl ?_ (by omega) (by simp) (by simp) (aMd ha.2 hb.2)
 show (lgS s && (true && (true && (true && (isT 4 a && (isT 1 b && true))))))=true
 rw [hs,ha.1,hb.1]; rfl
theorem bID {c k:Int} (h:sel c k=[(c,k,[110],[],0,0,[])]) (hs:fH s=true):OkT c (.node k 0 s [] []):=by
 have:=eJ hs
 refine ok1 h ?_ (by omega) (by simp) (by simp) (fun x hx=>by cases hx)
 show (fH s && (true && (true && (true && true))))=true
 rw [hs]; rfl
theorem bB0 {c k:Int} (h:sel c k=[(c,k,[108],[],0,0,[])]) (hs:lgS s=true):OkT c (.node k 0 s [] []):=by
 have:=yU hs
 refine ok1 h ?_ (by omega) (by simp) (by simp) (fun x hx=>by cases hx)
 show (lgS s && (true && (true && (true && true))))=true
 rw [hs]; rfl
theorem aUQ {c d k:Int} {w:UInt8} (h:sel c k=[(c,k,[110],[],0,0,[w])]) (hw:cF isT [w] [a]=(isT d a && true)) (hs:fH s=true) (ha:OkT d a):OkT c (.node k 0 s [] [a]):=by
 have:=eJ hs
 refine ok1 h ?_ (by omega) (by simp) (by simp) (aRS ha.2)
 show (fH s && (true && (true && (true && cF isT [w] [a]))))=true
 rw [hw,hs,ha.1]; rfl
theorem bHX {c d k:Int} {w:UInt8} (h:sel c k=[(c,k,[],[],0,0,[w])]) (hw:cF isT [w] [a]=(isT d a && true)) (ha:OkT d a):OkT c (.node k 0 [] [] [a]):=by
 refine ok1 h ?_ (by simp) (by simp) (by simp) (aRS ha.2)
 show (true && (true && (true && (true && cF isT [w] [a]))))=true
 rw [hw,ha.1]; rfl
theorem mk_data {c k:Int} (h:sel c k=[(c,k,[110],[],0,0,[67])]) (hs:fH s=true) (hc:OkC ks):OkT c (.node k 0 s [] ks):=by
 have:=eJ hs
 obtain ⟨h1,h2,h3,h4⟩:=hc
 refine ok1 h ?_ (by omega) (by simp) (by omega) h3
 show (fH s && (true && (true && (true && (jV (isT 8) [] ks && decide (0<ks.length))))))=true
 rw [hs,h1,decide_eq_true (by cases ks with | nil=>exact absurd rfl h2 | cons=>simp)]; rfl
theorem bDZ (hs:fH s=true) (ha:OkT 1 a):OkT 5 (.node 61 0 s [] [a]):=by
 have:=eJ hs
 refine ok2 (r:=(5,61,[110],[],0,0,[116])) (r':=(5,61,[110],[],0,0,[])) rfl (.inl ?_) (by omega) (by simp) (by simp) (aRS ha.2)
 show (fH s && (true && (true && (true && (isT 1 a && true)))))=true
 rw [hs,ha.1]; rfl
theorem bEq (hs:fH s=true):OkT 5 (.node 61 0 s [] []):=by
 have:=eJ hs
 refine ok2 (r:=(5,61,[110],[],0,0,[116])) (r':=(5,61,[110],[],0,0,[])) rfl (.inr ?_) (by omega) (by simp) (by simp) (fun x hx=>by cases hx)
 show (fH s && (true && (true && (true && true))))=true
 rw [hs]; rfl
theorem bDq (hs:lgS s=true) (hx:lgS x=true):OkT 5 (.node 65 0 s x []):=by
 have:=yU hs
 have:=yU hx
 refine ok1 (r:=(5,65,[108],[108],0,0,[])) rfl ?_ (by omega) (by omega) (by simp) (fun x hx=>by cases hx)
 show (lgS s && (lgS x && (true && (true && true))))=true
 rw [hs,hx]; rfl
theorem bEt (hs:fH s=true) (ha:OkT 2 a):OkT 6 (.node 70 0 s [] [a]):=by
 have:=eJ hs
 refine ok2 (r:=(6,70,[110],[],0,0,[101])) (r':=(6,70,[110],[],0,0,[116,101])) rfl (.inl ?_) (by omega) (by simp) (by simp) (aRS ha.2)
 show (fH s && (true && (true && (true && (isT 2 a && true)))))=true
 rw [hs,ha.1]; rfl
theorem bE8 (hs:fH s=true) (ha:OkT 1 a) (hb:OkT 2 b):OkT 6 (.node 70 0 s [] [a,b]):=by
 have:=eJ hs
 refine ok2 (r:=(6,70,[110],[],0,0,[101])) (r':=(6,70,[110],[],0,0,[116,101])) rfl (.inr ?_) (by omega) (by simp) (by simp) (aMd ha.2 hb.2)
 show (fH s && (true && (true && (true && (isT 1 a && (isT 2 b && true))))))=true
 rw [hs,ha.1,hb.1]; rfl
theorem bG1 (hs:fH s=true) (hx:fH x=true) (ha:OkT 4 a) (hb:OkT 3 b):OkT 6 (.node 75 0 s x [a,b]):=by
 have:=eJ hs
 have:=eJ hx
 refine ok1 (r:=(6,75,[110],[110],0,0,[115,109])) rfl ?_ (by omega) (by omega) (by simp) (aMd ha.2 hb.2)
 show (fH s && (fH x && (true && (true && (isT 4 a && (isT 3 b && true))))))=true
 rw [hs,hx,ha.1,hb.1]; rfl
end
theorem aUV {l:List aF} {i:Nat} (h:(lgR l i).2.2=0):lgS (lgR l i).1=true:=by
 unfold lgR at h ⊢
 by_cases hk:(yH l (i:Int)).2=true
 ·rw [if_pos hk]; exact aZg hk
 ·rw [if_neg hk] at h; exact absurd (show (6:Int)=0 from h) (by decide)
section
variable {l:List aF} (hl:l.length≤20000)
include hl
theorem aXv {i:Nat} (hi:i≤l.length):Yes (tyR l i) (fun t _=>OkT 1 t):=fun h=>by
 obtain ⟨h1,h2,_⟩:=bB8 hl hi h
 exact ⟨h1,h2⟩
theorem bFh {i:Nat} (hi:i≤l.length):Yes (exR l i) (fun t _=>OkT 2 t):=fun h=>by
 obtain ⟨h1,h2,_⟩:=(bI6 hl (8 * l.length+6) i hi).1 h
 exact ⟨h1,h2⟩
theorem bFi {i:Nat} (_hi:i≤l.length):Yes (cnR l i) (fun c _=>OkC c):=fun h=>by
 have hf:=(bCI l (3 * l.length+3) (by omega) i).2.2.2 []
 unfold cnR at h ⊢
 generalize aCc l (3 * l.length+3) i []=g at *
 obtain ⟨c,j,e⟩:=g
 have h:e=0:=h
 subst h
 obtain ⟨f1,f2,f3,f4⟩:=hf c j rfl rfl (fun x hx=>by cases hx)
 exact ⟨f1,f2,f3,by simp only [List.length_nil] at f4 ⊢; omega⟩
omit hl in
theorem aOT {c:Int} {s:List UInt8} {f:Nat→RT} {i:Nat} (hi:i≤l.length) (hf:∀ j,j≤l.length→Yes (f j) (fun t _=>OkT c t)):Yes (bhd .nil l s f i) (fun t _=>OkT c t):=by
 have b:=bX l [s] i hi
 unfold bhd
 generalize ks l [s] i=g at *
 exact aL fun _=>hf g.2.1 b.2
theorem bJg:∀ n i,i≤l.length→Yes (rD l n i) (fun t _=>OkT 3 t)∧(∀ m,OkT 3 m→Yes (aBa l n m i) (fun t _=>OkT 3 t))∧Yes (zV l n i) (fun t _=>OkT 3 t)∧Yes (lQ l n i) (fun t _=>OkT 4 t)∧(∀ m,OkT 4 m→Yes (aCd l n m i) (fun t _=>OkT 4 t)) ∧
  Yes (aBV l n i) (fun t _=>OkT 4 t)∧(∀ out,(∀ x∈out,OkT 5 x)→Yes (vA l n out i) (fun r _=>∀ x∈r,OkT 5 x))∧Yes (wH l n i) (fun t _=>OkT 5 t)∧(∀ top out,(∀ x∈out,OkD top x)→Yes (qE l n top out i) (fun r _=>∀ x∈r,OkD top x))∧(∀ top,Yes (uP l n top i) (fun t _=>OkD top t)):=by
 intro n
 induction n with
 | zero =>
  intro i hi
  have no:∀ {α:Type} {d:α} {j:Nat} {p:α→Nat→Prop},Yes (d,j,6) p:=fun h=>absurd (show (6:Int)=0 from h) (by decide)
  refine ⟨?_,fun m _=>?_,?_,?_,fun m _=>?_,?_,fun out _=>?_,?_,fun top out _=>?_,fun top=>?_⟩
  ·rw [rD]; exact no
  ·rw [aBa]; exact no
  ·rw [zV]; exact no
  ·rw [lQ]; exact no
  ·rw [aCd]; exact no
  ·rw [aBV]; exact no
  ·rw [vA]; exact no
  ·rw [wH]; exact no
  ·rw [qE]; exact no
  ·rw [uP]; exact no
 | succ n ih =>
  intro i hi
  have ihM:∀ j,j≤l.length→Yes (rD l n j) (fun t _=>OkT 3 t):=fun j h=>(ih j h).1
  have ihML:∀ j,j≤l.length→∀ m,OkT 3 m→Yes (aBa l n m j) (fun t _=>OkT 3 t):=fun j h=>(ih j h).2.1
  have ihP:∀ j,j≤l.length→Yes (zV l n j) (fun t _=>OkT 3 t):=fun j h=>(ih j h).2.2.1
  have ihS:∀ j,j≤l.length→Yes (lQ l n j) (fun t _=>OkT 4 t):=fun j h=>(ih j h).2.2.2.1
  have ihSL:∀ j,j≤l.length→∀ m,OkT 4 m→Yes (aCd l n m j) (fun t _=>OkT 4 t):=fun j h=>(ih j h).2.2.2.2.1
  have ihB:∀ j,j≤l.length→Yes (aBV l n j) (fun t _=>OkT 4 t):=fun j h=>(ih j h).2.2.2.2.2.1
  have ihSs:∀ out j,j≤l.length→(∀ x∈out,OkT 5 x)→Yes (vA l n out j) (fun r _=>∀ x∈r,OkT 5 x):=fun out j h=>(ih j h).2.2.2.2.2.2.1 out
  have ihSp:∀ j,j≤l.length→Yes (wH l n j) (fun t _=>OkT 5 t):=fun j h=>(ih j h).2.2.2.2.2.2.2.1
  have ihDs:∀ top out j,j≤l.length→(∀ x∈out,OkD top x)→Yes (qE l n top out j) (fun r _=>∀ x∈r,OkD top x):=fun top out j h=>(ih j h).2.2.2.2.2.2.2.2.1 top out
  have ihD:∀ top j,j≤l.length→Yes (uP l n top j) (fun t _=>OkD top t):=fun top j h=>(ih j h).2.2.2.2.2.2.2.2.2 top
  refine ⟨?_,fun m hm=>?_,?_,?_,fun m hm=>?_,?_,fun out ho=>?_,?_,fun top out ho=>?_,fun top=>?_⟩
  ·rw [rD]
   have b:=bIR hl (n:=n) (i:=i) (by omega)
   have f:=ihP (i) (by omega)
   generalize zV l n (i)=g1 at *
   obtain ⟨g1a,g1b,_⟩:=b
   refine aL fun h1=>?_
   have f1:=f h1
   exact ihML g1.2.1 g1b g1.1 f1
  ·rw [aBa]
   by_cases k0:aU l (i:Int) [58]=true
   ·rw [if_pos k0]
    have hin:=aN k0
    have b:=aQC hl (n:=n) (i:=i+1) (by omega)
    have f:=ihS (i+1) (by omega)
    generalize lQ l n (i+1)=g1 at *
    obtain ⟨g1a,g1b,_⟩:=b
    refine aL fun h1=>?_
    have f1:=f h1
    exact ihML g1.2.1 g1b _ (aZo (.inl rfl) hm f1)
   rw [if_neg k0]
   by_cases k1:aU l (i:Int) [58,62]=true
   ·rw [if_pos k1]
    have hin:=aN k1
    have b:=aQC hl (n:=n) (i:=i+1) (by omega)
    have f:=ihS (i+1) (by omega)
    generalize lQ l n (i+1)=g1 at *
    obtain ⟨g1a,g1b,_⟩:=b
    refine aL fun h1=>?_
    have f1:=f h1
    exact ihML g1.2.1 g1b _ (aZo (.inr rfl) hm f1)
   rw [if_neg k1]
   exact fun _=>hm
  ·rw [zV]
   by_cases k0:aU l (i:Int) aIs=true
   ·rw [if_pos k0]
    have hin:=aN k0
    have b:=aZ1 hl (n:=n) (top:=false) (out:=[]) (i:=i+1) (by omega)
    have f:=ihDs false [] (i+1) (by omega) (fun y hy=>by cases hy)
    generalize qE l n false [] (i+1)=g1 at *
    obtain ⟨g1a,g1b,g1c⟩:=b
    refine aL fun h1=>?_
    have f1:=f h1
    have g1c:=g1c h1
    rw [aI] at g1c
    have n1:=aCR g1.1
    have b:=bX l [aDK] (g1.2.1) (by omega)
    generalize ks l [aDK] (g1.2.1)=g2 at *
    obtain ⟨g2a,g2b⟩:=b
    refine aL fun h2=>?_
    exact fun _=>bGa f1 (by omega)
   rw [if_neg k0]
   by_cases k1:aU l (i:Int) [40]=true
   ·rw [if_pos k1]
    have hin:=aN k1
    have b:=aXY hl (n:=n) (i:=i+1) (by omega)
    have f:=ihM (i+1) (by omega)
    generalize rD l n (i+1)=g1 at *
    obtain ⟨g1a,g1b,_⟩:=b
    refine aL fun h1=>?_
    have f1:=f h1
    have b:=bX l [[41]] (g1.2.1) (by omega)
    generalize ks l [[41]] (g1.2.1)=g2 at *
    obtain ⟨g2a,g2b⟩:=b
    refine aL fun h2=>?_
    exact fun _=>f1
   rw [if_neg k1]
   by_cases k2:(kS l (i:Int)).2=true∧aU l ((i+1:Nat):Int) [40]=true
   ·rw [if_pos k2]
    have hin:=aN k2.2
    have b:=aXY hl (n:=n) (i:=i+2) (by omega)
    have f:=ihM (i+2) (by omega)
    generalize rD l n (i+2)=g1 at *
    obtain ⟨g1a,g1b,_⟩:=b
    refine aL fun h1=>?_
    have f1:=f h1
    have b:=bX l [[41]] (g1.2.1) (by omega)
    generalize ks l [[41]] (g1.2.1)=g2 at *
    obtain ⟨g2a,g2b⟩:=b
    refine aL fun h2=>?_
    exact fun _=>aUQ (w:=109) (d:=3) rfl rfl (aRp k2.1) f1
   rw [if_neg k2]
   have b:=aCj (l:=l) (i:=i) (by omega)
   have cN:=aUV (l:=l) (i:=i)
   generalize lgR l (i)=g1 at *
   obtain ⟨g1a,g1b⟩:=b
   refine aL fun h1=>?_
   have c1:=cN h1
   exact fun _=>bB0 rfl c1
  ·rw [lQ]
   have b:=bH8 hl (n:=n) (i:=i) (by omega)
   have f:=ihB (i) (by omega)
   generalize aBV l n (i)=g1 at *
   obtain ⟨g1a,g1b,_⟩:=b
   refine aL fun h1=>?_
   have f1:=f h1
   exact ihSL g1.2.1 g1b g1.1 f1
  ·rw [aCd]
   by_cases k0:aU l (i:Int) aDD=true
   ·rw [if_pos k0]
    have hin:=aN k0
    have b:=bX l [eT] (i+1) (by omega)
    generalize ks l [eT] (i+1)=g1 at *
    obtain ⟨g1a,g1b⟩:=b
    refine aL fun h1=>?_
    have b:=aCj (l:=l) (i:=g1.2.1) (by omega)
    have cN:=aUV (l:=l) (i:=g1.2.1)
    generalize lgR l (g1.2.1)=g2 at *
    obtain ⟨g2a,g2b⟩:=b
    refine aL fun h2=>?_
    have c2:=cN h2
    have b:=bX l [[61]] (g2.2.1) (by omega)
    generalize ks l [[61]] (g2.2.1)=g3 at *
    obtain ⟨g3a,g3b⟩:=b
    refine aL fun h3=>?_
    have b:=zT hl (i:=g3.2.1) (by omega)
    have f:=aXv hl (i:=g3.2.1) (by omega)
    generalize tyR l (g3.2.1)=g4 at *
    obtain ⟨g4a,g4b,_⟩:=b
    refine aL fun h4=>?_
    have f4:=f h4
    exact ihSL g4.2.1 g4b _ (bBg c2 hm f4)
   rw [if_neg k0]
   exact fun _=>hm
  ·rw [aBV]
   by_cases k0:aU l (i:Int) kSg=true
   ·rw [if_pos k0]
    have hin:=aN k0
    have b:=bII hl (n:=n) (out:=[]) (i:=i+1) (by omega)
    have f:=ihSs [] (i+1) (by omega) (fun y hy=>by cases hy)
    generalize vA l n [] (i+1)=g1 at *
    obtain ⟨g1a,g1b,g1c⟩:=b
    refine aL fun h1=>?_
    have f1:=f h1
    have g1c:=g1c h1
    rw [aI] at g1c
    have n1:=aCR g1.1
    have b:=bX l [aDK] (g1.2.1) (by omega)
    generalize ks l [aDK] (g1.2.1)=g2 at *
    obtain ⟨g2a,g2b⟩:=b
    refine aL fun h2=>?_
    exact fun _=>bEK f1 (by omega)
   rw [if_neg k0]
   have b:=iJ (l:=l) (i:=i) (by omega)
   have cN:=aD2 (l:=l) (i:=i)
   generalize tW l (i)=g1 at *
   obtain ⟨g1a,g1b⟩:=b
   refine aL fun h1=>?_
   have c1:=cN h1
   exact fun _=>bID rfl c1
  ·rw [vA]
   by_cases k0:aAI l i [vC,eT,kY,xA,vQ,yP]=true
   ·rw [if_pos k0]
    have b:=bFc hl (n:=n) (i:=i) (by omega)
    have f:=ihSp i (by omega)
    generalize wH l n i=g1 at *
    obtain ⟨g1a,g1b,_⟩:=b
    refine aL fun h1=>?_
    have f1:=f h1
    exact ihSs (out++[g1.1]) g1.2.1 g1b (fun x hx=>by
     rcases List.mem_append.1 hx with hx | hx
     ·exact ho x hx
     ·rw [List.mem_singleton.1 hx]; exact f1)
   rw [if_neg k0]
   exact fun _=>ho
  ·rw [wH]
   by_cases k0:aU l (i:Int) vC=true
   ·rw [if_pos k0]
    have hin:=aN k0
    have b:=iJ (l:=l) (i:=i+1) (by omega)
    have cN:=aD2 (l:=l) (i:=i+1)
    generalize tW l (i+1)=g1 at *
    obtain ⟨g1a,g1b⟩:=b
    refine aL fun h1=>?_
    have c1:=cN h1
    have b:=sK (s:=[58]) (f:=fun j=>tyR l j) (i:=g1.2.1) (by omega) (fun j hj=>zT hl hj)
    have f:=aOT (s:=[58]) (f:=fun j=>tyR l j) (i:=g1.2.1) (by omega) (fun j hj=>aXv hl hj)
    generalize bhd .nil l [58] (fun j=>tyR l j) (g1.2.1)=g2 at *
    obtain ⟨g2a,g2b,_⟩:=b
    refine aL fun h2=>?_
    have f2:=f h2
    exact fun _=>aUQ (w:=116) (d:=1) rfl rfl c1 f2
   rw [if_neg k0]
   by_cases k1:aU l (i:Int) eT=true
   ·rw [if_pos k1]
    have hin:=aN k1
    have b:=iJ (l:=l) (i:=i+1) (by omega)
    have cN:=aD2 (l:=l) (i:=i+1)
    generalize tW l (i+1)=g1 at *
    obtain ⟨g1a,g1b⟩:=b
    refine aL fun h1=>?_
    have c1:=cN h1
    by_cases j1:aU l (g1.2.1:Int) [61]=true
    ·rw [if_pos j1]
     have hin2:=aN j1
     have b:=zT hl (i:=g1.2.1+1) (by omega)
     have f:=aXv hl (i:=g1.2.1+1) (by omega)
     generalize tyR l (g1.2.1+1)=g2 at *
     obtain ⟨g2a,g2b,_⟩:=b
     refine aL fun h2=>?_
     have f2:=f h2
     exact fun _=>bDZ c1 f2
    rw [if_neg j1]
    exact fun _=>bEq c1
   rw [if_neg k1]
   by_cases k2:aU l (i:Int) kY=true
   ·rw [if_pos k2]
    have hin:=aN k2
    have b:=iJ (l:=l) (i:=i+1) (by omega)
    have cN:=aD2 (l:=l) (i:=i+1)
    generalize tW l (i+1)=g1 at *
    obtain ⟨g1a,g1b⟩:=b
    refine aL fun h1=>?_
    have c1:=cN h1
    have b:=bX l [[61]] (g1.2.1) (by omega)
    generalize ks l [[61]] (g1.2.1)=g2 at *
    obtain ⟨g2a,g2b⟩:=b
    refine aL fun h2=>?_
    have b:=aVa hl (i:=g2.2.1) (by omega)
    have f:=bFi hl (i:=g2.2.1) (by omega)
    generalize cnR l (g2.2.1)=g3 at *
    obtain ⟨g3a,g3b,_⟩:=b
    refine aL fun h3=>?_
    have f3:=f h3
    exact fun _=>mk_data rfl c1 f3
   rw [if_neg k2]
   by_cases k3:aU l (i:Int) xA=true
   ·rw [if_pos k3]
    have hin:=aN k3
    have b:=iJ (l:=l) (i:=i+1) (by omega)
    have cN:=aD2 (l:=l) (i:=i+1)
    generalize tW l (i+1)=g1 at *
    obtain ⟨g1a,g1b⟩:=b
    refine aL fun h1=>?_
    have c1:=cN h1
    have b:=sK (s:=[58]) (f:=fun j=>lQ l n j) (i:=g1.2.1) (by omega) (fun j hj=>aQC hl hj)
    have f:=aOT (s:=[58]) (f:=fun j=>lQ l n j) (i:=g1.2.1) (by omega) (fun j hj=>ihS j hj)
    generalize bhd .nil l [58] (fun j=>lQ l n j) (g1.2.1)=g2 at *
    obtain ⟨g2a,g2b,_⟩:=b
    refine aL fun h2=>?_
    have f2:=f h2
    exact fun _=>aUQ (w:=115) (d:=4) rfl rfl c1 f2
   rw [if_neg k3]
   by_cases k4:aU l (i:Int) vQ=true
   ·rw [if_pos k4]
    have hin:=aN k4
    have b:=aQC hl (n:=n) (i:=i+1) (by omega)
    have f:=ihS (i+1) (by omega)
    generalize lQ l n (i+1)=g1 at *
    obtain ⟨g1a,g1b,_⟩:=b
    refine aL fun h1=>?_
    have f1:=f h1
    exact fun _=>bHX (w:=115) (d:=4) rfl rfl f1
   rw [if_neg k4]
   by_cases k5:aU l (i:Int) yP=true
   ·rw [if_pos k5]
    have hin:=aN k5
    have b:=bX l [eT] (i+1) (by omega)
    generalize ks l [eT] (i+1)=g1 at *
    obtain ⟨g1a,g1b⟩:=b
    refine aL fun h1=>?_
    have b:=aCj (l:=l) (i:=g1.2.1) (by omega)
    have cN:=aUV (l:=l) (i:=g1.2.1)
    generalize lgR l (g1.2.1)=g2 at *
    obtain ⟨g2a,g2b⟩:=b
    refine aL fun h2=>?_
    have c2:=cN h2
    have b:=bX l [[61]] (g2.2.1) (by omega)
    generalize ks l [[61]] (g2.2.1)=g3 at *
    obtain ⟨g3a,g3b⟩:=b
    refine aL fun h3=>?_
    have b:=aCj (l:=l) (i:=g3.2.1) (by omega)
    have cN:=aUV (l:=l) (i:=g3.2.1)
    generalize lgR l (g3.2.1)=g4 at *
    obtain ⟨g4a,g4b⟩:=b
    refine aL fun h4=>?_
    have c4:=cN h4
    exact fun _=>bDq c2 c4
   rw [if_neg k5]
   exact fun h=>absurd (show (6:Int)=0 from h) (by decide)
  ·rw [qE]
   by_cases k0:(aAI l i [vC,eT,kY,xA,yI,vQ] || (top && aAI l i [aHH,aHn]))=true
   ·rw [if_pos k0]
    have b:=bIo hl (n:=n) (top:=top) (i:=i) (by omega)
    have f:=ihD top i (by omega)
    generalize uP l n top i=g1 at *
    obtain ⟨g1a,g1b,_⟩:=b
    refine aL fun h1=>?_
    have f1:=f h1
    exact ihDs top (out++[g1.1]) g1.2.1 g1b (fun x hx=>by
     rcases List.mem_append.1 hx with hx | hx
     ·exact ho x hx
     ·rw [List.mem_singleton.1 hx]; exact f1)
   rw [if_neg k0]
   exact fun _=>ho
  ·rw [uP]
   by_cases k0:aU l (i:Int) vC=true
   ·rw [if_pos k0]
    have hin:=aN k0
    have b:=iJ (l:=l) (i:=i+1) (by omega)
    have cN:=aD2 (l:=l) (i:=i+1)
    generalize tW l (i+1)=g1 at *
    obtain ⟨g1a,g1b⟩:=b
    refine aL fun h1=>?_
    have c1:=cN h1
    by_cases j0:aU l (g1.2.1:Int) [58]=true
    ·rw [if_pos j0]
     have hin2:=aN j0
     have b:=zT hl (i:=g1.2.1+1) (by omega)
     have f:=aXv hl (i:=g1.2.1+1) (by omega)
     generalize tyR l (g1.2.1+1)=g2 at *
     obtain ⟨g2a,g2b,_⟩:=b
     refine aL fun h2=>?_
     have f2:=f h2
     have b:=sK (s:=[61]) (f:=fun j=>exR l j) (i:=g2.2.1) (by omega) (fun j hj=>aU1 hl hj)
     have f:=aOT (s:=[61]) (f:=fun j=>exR l j) (i:=g2.2.1) (by omega) (fun j hj=>bFh hl hj)
     generalize bhd .nil l [61] (fun j=>exR l j) (g2.2.1)=g3 at *
     obtain ⟨g3a,g3b,_⟩:=b
     refine aL fun h3=>?_
     have f3:=f h3
     exact fun _=>⟨bE8 c1 f2 f3,fun _=>kd (by decide)⟩
    rw [if_neg j0]
    have b:=sK (s:=[61]) (f:=fun j=>exR l j) (i:=g1.2.1) (by omega) (fun j hj=>aU1 hl hj)
    have f:=aOT (s:=[61]) (f:=fun j=>exR l j) (i:=g1.2.1) (by omega) (fun j hj=>bFh hl hj)
    generalize bhd .nil l [61] (fun j=>exR l j) (g1.2.1)=g2 at *
    obtain ⟨g2a,g2b,_⟩:=b
    refine aL fun h2=>?_
    have f2:=f h2
    exact fun _=>⟨bEt c1 f2,fun _=>kd (by decide)⟩
   rw [if_neg k0]
   by_cases k1:aU l (i:Int) eT=true
   ·rw [if_pos k1]
    have hin:=aN k1
    have b:=iJ (l:=l) (i:=i+1) (by omega)
    have cN:=aD2 (l:=l) (i:=i+1)
    generalize tW l (i+1)=g1 at *
    obtain ⟨g1a,g1b⟩:=b
    refine aL fun h1=>?_
    have c1:=cN h1
    have b:=sK (s:=[61]) (f:=fun j=>tyR l j) (i:=g1.2.1) (by omega) (fun j hj=>zT hl hj)
    have f:=aOT (s:=[61]) (f:=fun j=>tyR l j) (i:=g1.2.1) (by omega) (fun j hj=>aXv hl hj)
    generalize bhd .nil l [61] (fun j=>tyR l j) (g1.2.1)=g2 at *
    obtain ⟨g2a,g2b,_⟩:=b
    refine aL fun h2=>?_
    have f2:=f h2
    exact fun _=>⟨aUQ (w:=116) (d:=1) rfl rfl c1 f2,fun _=>kd (by decide)⟩
   rw [if_neg k1]
   by_cases k2:aU l (i:Int) kY=true
   ·rw [if_pos k2]
    have hin:=aN k2
    have b:=iJ (l:=l) (i:=i+1) (by omega)
    have cN:=aD2 (l:=l) (i:=i+1)
    generalize tW l (i+1)=g1 at *
    obtain ⟨g1a,g1b⟩:=b
    refine aL fun h1=>?_
    have c1:=cN h1
    have b:=bX l [[61]] (g1.2.1) (by omega)
    generalize ks l [[61]] (g1.2.1)=g2 at *
    obtain ⟨g2a,g2b⟩:=b
    refine aL fun h2=>?_
    have b:=aVa hl (i:=g2.2.1) (by omega)
    have f:=bFi hl (i:=g2.2.1) (by omega)
    generalize cnR l (g2.2.1)=g3 at *
    obtain ⟨g3a,g3b,_⟩:=b
    refine aL fun h3=>?_
    have f3:=f h3
    exact fun _=>⟨mk_data rfl c1 f3,fun _=>kd (by decide)⟩
   rw [if_neg k2]
   by_cases k3:aU l (i:Int) xA=true
   ·rw [if_pos k3]
    have hin:=aN k3
    have b:=iJ (l:=l) (i:=i+1) (by omega)
    have cN:=aD2 (l:=l) (i:=i+1)
    generalize tW l (i+1)=g1 at *
    obtain ⟨g1a,g1b⟩:=b
    refine aL fun h1=>?_
    have c1:=cN h1
    have b:=sK (s:=[61]) (f:=fun j=>rD l n j) (i:=g1.2.1) (by omega) (fun j hj=>aXY hl hj)
    have f:=aOT (s:=[61]) (f:=fun j=>rD l n j) (i:=g1.2.1) (by omega) (fun j hj=>ihM j hj)
    generalize bhd .nil l [61] (fun j=>rD l n j) (g1.2.1)=g2 at *
    obtain ⟨g2a,g2b,_⟩:=b
    refine aL fun h2=>?_
    have f2:=f h2
    exact fun _=>⟨aUQ (w:=109) (d:=3) rfl rfl c1 f2,fun _=>kd (by decide)⟩
   rw [if_neg k3]
   by_cases k4:aU l (i:Int) yI=true
   ·rw [if_pos k4]
    have hin:=aN k4
    have b:=aCj (l:=l) (i:=i+1) (by omega)
    have cN:=aUV (l:=l) (i:=i+1)
    generalize lgR l (i+1)=g1 at *
    obtain ⟨g1a,g1b⟩:=b
    refine aL fun h1=>?_
    have c1:=cN h1
    exact fun _=>⟨bB0 rfl c1,fun _=>kd (by decide)⟩
   rw [if_neg k4]
   by_cases k5:aU l (i:Int) vQ=true
   ·rw [if_pos k5]
    have hin:=aN k5
    have b:=aCj (l:=l) (i:=i+1) (by omega)
    have cN:=aUV (l:=l) (i:=i+1)
    generalize lgR l (i+1)=g1 at *
    obtain ⟨g1a,g1b⟩:=b
    refine aL fun h1=>?_
    have c1:=cN h1
    exact fun _=>⟨bB0 rfl c1,fun _=>kd (by decide)⟩
   rw [if_neg k5]
   by_cases k6:top=true∧aU l (i:Int) aHH=true
   ·rw [if_pos k6]
    have hin:=aN k6.2
    have b:=iJ (l:=l) (i:=i+1) (by omega)
    have cN:=aD2 (l:=l) (i:=i+1)
    generalize tW l (i+1)=g1 at *
    obtain ⟨g1a,g1b⟩:=b
    refine aL fun h1=>?_
    have c1:=cN h1
    have b:=sK (s:=[61]) (f:=fun j=>lQ l n j) (i:=g1.2.1) (by omega) (fun j hj=>aQC hl hj)
    have f:=aOT (s:=[61]) (f:=fun j=>lQ l n j) (i:=g1.2.1) (by omega) (fun j hj=>ihS j hj)
    generalize bhd .nil l [61] (fun j=>lQ l n j) (g1.2.1)=g2 at *
    obtain ⟨g2a,g2b,_⟩:=b
    refine aL fun h2=>?_
    have f2:=f h2
    exact fun _=>⟨aUQ (w:=115) (d:=4) rfl rfl c1 f2,fun e=>absurd (e.symm.trans k6.1) (by decide)⟩
   rw [if_neg k6]
   by_cases k7:top=true∧aU l (i:Int) aHn=true
   ·rw [if_pos k7]
    have hin:=aN k7.2
    have b:=iJ (l:=l) (i:=i+1) (by omega)
    have cN:=aD2 (l:=l) (i:=i+1)
    generalize tW l (i+1)=g1 at *
    obtain ⟨g1a,g1b⟩:=b
    refine aL fun h1=>?_
    have c1:=cN h1
    have b:=bX l [[40]] (g1.2.1) (by omega)
    generalize ks l [[40]] (g1.2.1)=g2 at *
    obtain ⟨g2a,g2b⟩:=b
    refine aL fun h2=>?_
    have b:=iJ (l:=l) (i:=g2.2.1) (by omega)
    have cN:=aD2 (l:=l) (i:=g2.2.1)
    generalize tW l (g2.2.1)=g3 at *
    obtain ⟨g3a,g3b⟩:=b
    refine aL fun h3=>?_
    have c3:=cN h3
    have b:=sK (s:=[58]) (f:=fun j=>lQ l n j) (i:=g3.2.1) (by omega) (fun j hj=>aQC hl hj)
    have f:=aOT (s:=[58]) (f:=fun j=>lQ l n j) (i:=g3.2.1) (by omega) (fun j hj=>ihS j hj)
    generalize bhd .nil l [58] (fun j=>lQ l n j) (g3.2.1)=g4 at *
    obtain ⟨g4a,g4b,_⟩:=b
    refine aL fun h4=>?_
    have f4:=f h4
    have b:=bX l [[41]] (g4.2.1) (by omega)
    generalize ks l [[41]] (g4.2.1)=g5 at *
    obtain ⟨g5a,g5b⟩:=b
    refine aL fun h5=>?_
    have b:=sK (s:=[61]) (f:=fun j=>rD l n j) (i:=g5.2.1) (by omega) (fun j hj=>aXY hl hj)
    have f:=aOT (s:=[61]) (f:=fun j=>rD l n j) (i:=g5.2.1) (by omega) (fun j hj=>ihM j hj)
    generalize bhd .nil l [61] (fun j=>rD l n j) (g5.2.1)=g6 at *
    obtain ⟨g6a,g6b,_⟩:=b
    refine aL fun h6=>?_
    have f6:=f h6
    exact fun _=>⟨bG1 c1 c3 f4 f6,fun e=>absurd (e.symm.trans k7.1) (by decide)⟩
   rw [if_neg k7]
   exact fun h=>absurd (show (6:Int)=0 from h) (by decide)
end
end Go.Proofs.YtjhfgiieicloeaaGreatDoor

