/- Joined texts: P1, P2, P3. -/
import Derived.Test.YtjhfgiieicloeaaGreatDoorGv
import Derived.Test.YtjhfgiieicloeaaGreatDoorGm
import Derived.Test.YtjhfgiieicloeaaGreatDoorGk
import Derived.Test.YtjhfgiieicloeaaGreatDoorGu
import Derived.Test.YtjhfgiieicloeaaGreatDoorGl
import Derived.Test.YtjhfgiieicloeaaGreatDoorGo
/- Modules, signatures, specifications, declarations as words, and the parser on them. Printed by gen9/p1.py. -/
namespace Go.Proofs.YtjhfgiieicloeaaGreatDoor
open Go Go.Am Go.Sx
structure Zg (R:List Wd):Prop where
 m:kW R [42]=false
 a:kW R [45,62]=false
 w:kW R aEY=false
 p:kW R [40]=false
structure Z (R:List Wd):Prop where
 g:Zg R
 c:kW R [58]=false
 cs:kW R [58,62]=false
 b:kW R [124]=false
 e:kW R [61]=false
 st:St R
theorem bAV:Z []:=⟨⟨rfl,rfl,rfl,rfl⟩,rfl,rfl,rfl,rfl,bHL⟩
theorem aXI {s:List UInt8} (R:List Wd) (h:s∉[[42],[45,62],aEY,[40]]):Zg ((3,s) :: R):=by
 simp only [List.mem_cons,not_or,List.not_mem_nil] at h
 obtain ⟨h1,h2,h3,h4,_⟩:=h
 refine ⟨?_,?_,?_,?_⟩ <;> rw [iR]
 ·exact decide_eq_false h1
 ·exact decide_eq_false h2
 ·exact decide_eq_false h3
 ·exact decide_eq_false h4
def bAX:List (List UInt8):=[yW,fL,mM,aAH,aAD,aBF,aAZ,aJ3,aKb,aHe,[41]]
theorem bEh {s:List UInt8} (R:List Wd) (h:s∈bAX):Z ((3,s) :: R):=by
 have n1:∀ u∈bAX,u∉[[42],[45,62],aEY,[40],[58],[58,62],[124],[61]]:=by decide
 have n2:∀ u∈bAX,u∉[[116,114,117,101],[102,97,108,115,101],[40],[35,49],[35,50],[42],[43],[45],[61],[60]]:=by decide
 have h1:=n1 s h
 simp only [List.mem_cons,not_or,List.not_mem_nil] at h1
 obtain ⟨a1,a2,a3,a4,a5,a6,a7,a8,_⟩:=h1
 refine ⟨aXI R (by simp only [List.mem_cons,not_or,List.not_mem_nil]; exact ⟨a1,a2,a3,a4,fun e=>e⟩),?_,?_,?_,?_,aDE R (n2 s h)⟩ <;> rw [iR]
 ·exact decide_eq_false a5
 ·exact decide_eq_false a6
 ·exact decide_eq_false a7
 ·exact decide_eq_false a8
def Gp (t:Tr) (w:List Wd):Prop:=∀ (l:List aI) (i n:Nat) (R:List Wd),Nk l→At l i (w++R)→kW R [42]=false→kW R [45,62]=false→4 * w.length+2≤n→∃ m,n≤m+w.length+1∧rL l n i=aGn l m t (i+w.length)
def Mp (t:Tr) (w:List Wd):Prop:=∀ (l:List aI) (i n:Nat) (R:List Wd),Nk l→At l i (w++R)→Zg R→4 * w.length+2≤n→∃ m,n≤m+w.length+1∧yP l n i=aD3 l m t (i+w.length)
def Sq (t:Tr) (w:List Wd):Prop:=∀ (l:List aI) (i n:Nat) (R:List Wd),Nk l→At l i (w++R)→Z R→4 * w.length+1≤n→aCd l n i=(t,i+w.length,0)
def Dq (top:Bool) (t:Tr) (w:List Wd):Prop:=∀ (l:List aI) (i n:Nat) (R:List Wd),Nk l→At l i (w++R)→Z R→4 * w.length+1≤n→aA4 l n top i=(t,i+w.length,0)
theorem aHX {α:Type} {a:α} {i j:Nat} {e:Int} (h:i=j):(a,i,e)=(a,j,e):=by rw [h]
theorem aXc {α:Type} {d:α} {l:List aI} {s:List UInt8} {f:Nat→α×Nat×Int} {i:Nat} {R:List Wd} (h:At l i ((3,s) :: R)):bhd d l s f i=f (i+1):=by
 unfold bhd
 rw [ks1 h,ks0,aO]
theorem lg1 {l:List aI} {i:Nat} {s:List UInt8} {R:List Wd} (h:At l i ((1,s) :: R)) (hc:lgS s=true):lgR l i=(s,i+1,0):=by
 have e:gW ((1,s) :: R)=(s,true):=if_pos (c:=(1:Int)=1∧lgS s=true) ⟨rfl,hc⟩
 unfold lgR
 rw [h.long,e]
 rfl
theorem ex1 {l:List aI} {i:Nat} {t:Tr} {w R:List Wd} (hp:A0 t w) (hn:Nk l) (h:At l i (w++R)) (hs:St R):exR l i=(t,i+w.length,0):=by
 have:=h.len
 exact hp l i _ R hn h hs (by omega)
theorem cn1 {l:List aI} {i:Nat} {c:List Tr} {w R:List Wd} (hp:aMI c w) (hd:(c.map nameOf).Nodup) (h:At l i (w++R)) (hz:Z R):cnR l i=(c,i+w.length,0):=by
 have:=h.len
 have:=bAW hp l i (3 * l.length+3) R [] h hz.g.m hz.g.a hz.b (fun k _=>by simp) hd (by omega)
 unfold cnR
 rw [this,List.nil_append]
theorem Gp.fin {t:Tr} {w:List Wd} (h:Gp t w) {l:List aI} {i n:Nat} {R:List Wd} (hn:Nk l) (ha:At l i (w++R)) (hm:kW R [42]=false) (hq:kW R [45,62]=false) (hw:kW R aEY=false) (hf:4 * w.length+2≤n):rL l n i=(t,i+w.length,0):=by
 obtain ⟨m,h1,h2⟩:=h l i n R hn ha hm hq hf
 obtain ⟨m,rfl⟩:∃ q,m=q+1:=⟨m - 1,by omega⟩
 rw [h2,aGn,ha.app.key,hw,if_neg (by simp)]
theorem Mp.fin {t:Tr} {w:List Wd} (h:Mp t w) {l:List aI} {i n:Nat} {R:List Wd} (hn:Nk l) (ha:At l i (w++R)) (hg:Zg R) (hc:kW R [58]=false) (hs:kW R [58,62]=false) (hf:4 * w.length+2≤n):yP l n i=(t,i+w.length,0):=by
 obtain ⟨m,h1,h2⟩:=h l i n R hn ha hg hf
 obtain ⟨m,rfl⟩:∃ q,m=q+1:=⟨m - 1,by omega⟩
 rw [h2,aD3,ha.app.key,hc,if_neg (by simp),ha.app.key,hs,if_neg (by simp)]
theorem aW2 {l:List aI} {i:Nat} {s:List UInt8} {R:List Wd} {t:List (List UInt8)} (h:At l i ((3,s) :: R)) (hs:s∈t):aB7 l i t=true:=by
 unfold aB7
 refine List.any_eq_true.2 ⟨s,hs,?_⟩
 rw [h.key,iR,decide_eq_true rfl]
theorem aXb {l:List aI} {i:Nat} {R:List Wd} {t:List (List UInt8)} (h:At l i R) (hs:∀ s∈t,kW R s=false):aB7 l i t=false:=by
 unfold aB7
 refine List.any_eq_false.2 fun s hm=>?_
 rw [h.key,hs s hm]; simp
abbrev TW:=Tr×List Wd
def flW (L:List TW):List Wd:=(L.map Prod.snd).flatten
theorem aED (a:TW) (L:List TW):flW (a :: L)=a.2++flW L:=rfl
abbrev aTF:List (List UInt8):=[yW,fL,mM,aAH,aAD,aBF]
abbrev aKC (top:Bool):List (List UInt8):=if top=true then [yW,fL,mM,aAH,aAZ,aAD,aJ3,aKb] else [yW,fL,mM,aAH,aAZ,aAD]
def Hd (t:List (List UInt8)) (w:List Wd):Prop:=∃ s r,w=(3,s) :: r∧s∈t
theorem bEv {t:List (List UInt8)} (ht:∀ s∈t,s∈bAX) {L:List TW} (hL:∀ a∈L,Hd t a.2) {R:List Wd} (hz:Z R):Z (flW L++R):=by
 cases L with
 | nil=>exact hz
 | cons a L =>
  obtain ⟨s,r,e,hs⟩:=hL a List.mem_cons_self
  rw [aED,e]
  exact bEh _ (ht s hs)
theorem bDS:∀ (L:List TW),(∀ a∈L,Sq a.1 a.2∧Hd aTF a.2)→∀ (l:List aI) (i n:Nat) (R:List Wd) (out:List Tr),Nk l→At l i (flW L++R)→Z R→(∀ s∈aTF,kW R s=false)→4 * (flW L).length+2≤n→aDD l n out i=(out++L.map Prod.fst,i+(flW L).length,0)
 | [],_,l,i,n,R,out,_,ha,_,hR,hf=>by
  obtain ⟨n,rfl⟩:∃ q,n=q+1:=⟨n - 1,by omega⟩
  have ha:At l i R:=ha
  rw [aDD,aXb ha hR,if_neg (by simp)]
  simp [flW]
 | a :: L,h,l,i,n,R,out,hn,ha,hz,hR,hf=>by
  obtain ⟨n,rfl⟩:∃ q,n=q+1:=⟨n - 1,by omega⟩
  obtain ⟨h1,s,r,e,hs⟩:=h a List.mem_cons_self
  rw [aED,List.append_assoc] at ha
  rw [aED,List.length_append] at hf
  have hl:1≤a.2.length:=by rw [e]; simp
  have hk:=ha
  rw [e,List.cons_append] at hk
  have zr:=bEv (t:=aTF) (by decide) (L:=L) (fun x hx=>(h x (List.mem_cons_of_mem _ hx)).2) hz
  rw [aDD,aW2 hk hs,if_pos rfl,h1 l i n _ hn ha zr (by omega),aO]
  rw [bDS L (fun x hx=>h x (List.mem_cons_of_mem _ hx)) l _ n R _ hn ha.app hz hR (by omega)]
  rw [aED,List.length_append,List.append_assoc,List.map_cons]
  exact aHX (by omega)
theorem bEq {top:Bool}:∀ (L:List TW),(∀ a∈L,Dq top a.1 a.2∧Hd (aKC top) a.2)→∀ (l:List aI) (i n:Nat) (R:List Wd) (out:List Tr),Nk l→At l i (flW L++R)→Z R→(∀ s∈aKC top,kW R s=false)→4 * (flW L).length+2≤n→aBq l n top out i=(out++L.map Prod.fst,i+(flW L).length,0)
 | [],_,l,i,n,R,out,_,ha,_,hR,hf=>by
  obtain ⟨n,rfl⟩:∃ q,n=q+1:=⟨n - 1,by omega⟩
  have ha:At l i R:=ha
  have e:(aB7 l i [yW,fL,mM,aAH,aAZ,aAD] || (top && aB7 l i [aJ3,aKb]))=false:=by
   cases top with
   | false=>rw [aXb (t:=[yW,fL,mM,aAH,aAZ,aAD]) ha (fun s hs=>hR s hs)]; rfl
   | true =>
    have d1:∀ s∈[yW,fL,mM,aAH,aAZ,aAD],s∈aKC true:=by decide
    have d2:∀ s∈[aJ3,aKb],s∈aKC true:=by decide
    rw [aXb ha (fun s hs=>hR s (d1 s hs)),aXb ha (fun s hs=>hR s (d2 s hs))]
    rfl
  rw [aBq,e,if_neg (by simp)]
  simp [flW]
 | a :: L,h,l,i,n,R,out,hn,ha,hz,hR,hf=>by
  obtain ⟨n,rfl⟩:∃ q,n=q+1:=⟨n - 1,by omega⟩
  obtain ⟨h1,s,r,e,hs⟩:=h a List.mem_cons_self
  rw [aED,List.append_assoc] at ha
  rw [aED,List.length_append] at hf
  have hl:1≤a.2.length:=by rw [e]; simp
  have hk:=ha
  rw [e,List.cons_append] at hk
  have zr:=bEv (t:=aKC top) (by cases top <;> decide) (L:=L) (fun x hx=>(h x (List.mem_cons_of_mem _ hx)).2) hz
  have e2:(aB7 l i [yW,fL,mM,aAH,aAZ,aAD] || (top && aB7 l i [aJ3,aKb]))=true:=by
   cases top with
   | false=>rw [aW2 hk (show s∈[yW,fL,mM,aAH,aAZ,aAD] from hs)]; rfl
   | true =>
    have d:∀ s∈aKC true,s∈[yW,fL,mM,aAH,aAZ,aAD]∨s∈[aJ3,aKb]:=by decide
    rcases d s hs with h | h
    ·rw [aW2 hk h]; rfl
    ·rw [aW2 (t:=[aJ3,aKb]) hk h]; simp
  rw [aBq,e2,if_pos rfl,h1 l i n _ hn ha zr (by omega),aO]
  rw [bEq L (fun x hx=>h x (List.mem_cons_of_mem _ hx)) l _ n R _ hn ha.app hz hR (by omega)]
  rw [aED,List.length_append,List.append_assoc,List.map_cons]
  exact aHX (by omega)
section
variable {s x:List UInt8} {a b:Tr} {wa wb:List Wd}
theorem bHN (hs:mG s=true) (ha':Pa0 a wa):Sq (.node 60 0 s [] [a]) ((3,yW) :: (1,s) :: (3,[58]) :: wa):=fun l i n R hn ha hz hf=>by
 simp only [List.length_cons] at hf
 simp only [List.cons_append] at ha
 obtain ⟨n,rfl⟩:∃ q,n=q+1:=⟨n - 1,by omega⟩
 rw [aCd]
 rw [ha.key,iR,decide_eq_true rfl,if_pos rfl]
 have h1:=ha.next
 rw [nm1 h1 hs,aO]
 have h2:=h1.next
 rw [aXc h2]
 have h3:=h2.next
 rw [ty1 ha' h3 hz.g.m hz.g.a,aO]
 exact aHX (by simp only [List.length_cons] <;> omega)
theorem bHC (hs:mG s=true) (ha':Pa0 a wa):Sq (.node 61 0 s [] [a]) ((3,fL) :: (1,s) :: (3,[61]) :: wa):=fun l i n R hn ha hz hf=>by
 simp only [List.length_cons] at hf
 simp only [List.cons_append] at ha
 obtain ⟨n,rfl⟩:∃ q,n=q+1:=⟨n - 1,by omega⟩
 rw [aCd]
 rw [ha.key,iR,if_neg (by decide)]
 rw [ha.key,iR,decide_eq_true rfl,if_pos rfl]
 have h1:=ha.next
 rw [nm1 h1 hs,aO]
 have h2:=h1.next
 rw [h2.key,iR,decide_eq_true rfl,if_pos rfl]
 have h3:=h2.next
 rw [ty1 ha' h3 hz.g.m hz.g.a,aO]
 exact aHX (by simp only [List.length_cons] <;> omega)
theorem bHd (hs:mG s=true):Sq (.node 61 0 s [] []) ([(3,fL),(1,s)]):=fun l i n R hn ha hz hf=>by
 simp only [List.length_cons,List.length_nil] at hf
 simp only [List.cons_append,List.nil_append] at ha
 obtain ⟨n,rfl⟩:∃ q,n=q+1:=⟨n - 1,by omega⟩
 rw [aCd]
 rw [ha.key,iR,if_neg (by decide)]
 rw [ha.key,iR,decide_eq_true rfl,if_pos rfl]
 have h1:=ha.next
 rw [nm1 h1 hs,aO]
 have h2:=h1.next
 rw [h2.key,hz.e,if_neg (by simp)]
 exact aHX (by simp only [List.length_cons,List.length_nil] <;> omega)
theorem bGJ (hs:mG s=true) {ks:List Tr} (hc:aMI ks wa) (hd:(ks.map nameOf).Nodup):Sq (.node 62 0 s [] ks) ((3,mM) :: (1,s) :: (3,[61]) :: wa):=fun l i n R hn ha hz hf=>by
 simp only [List.length_cons] at hf
 simp only [List.cons_append] at ha
 obtain ⟨n,rfl⟩:∃ q,n=q+1:=⟨n - 1,by omega⟩
 rw [aCd]
 rw [ha.key,iR,if_neg (by decide)]
 rw [ha.key,iR,if_neg (by decide)]
 rw [ha.key,iR,decide_eq_true rfl,if_pos rfl]
 have h1:=ha.next
 rw [nm1 h1 hs,aO]
 have h2:=h1.next
 rw [ks1 h2,ks0,aO]
 have h3:=h2.next
 rw [cn1 hc hd h3 hz,aO]
 exact aHX (by simp only [List.length_cons] <;> omega)
theorem bGC (hs:mG s=true) (ha':Gp a wa):Sq (.node 63 0 s [] [a]) ((3,aAH) :: (1,s) :: (3,[58]) :: wa):=fun l i n R hn ha hz hf=>by
 simp only [List.length_cons] at hf
 simp only [List.cons_append] at ha
 obtain ⟨n,rfl⟩:∃ q,n=q+1:=⟨n - 1,by omega⟩
 rw [aCd]
 rw [ha.key,iR,if_neg (by decide)]
 rw [ha.key,iR,if_neg (by decide)]
 rw [ha.key,iR,if_neg (by decide)]
 rw [ha.key,iR,decide_eq_true rfl,if_pos rfl]
 have h1:=ha.next
 rw [nm1 h1 hs,aO]
 have h2:=h1.next
 rw [aXc h2]
 have h3:=h2.next
 rw [Gp.fin ha' hn h3 hz.g.m hz.g.a hz.g.w (by omega),aO]
 exact aHX (by simp only [List.length_cons] <;> omega)
theorem bGP (ha':Gp a wa):Sq (.node 64 0 [] [] [a]) ((3,aAD) :: wa):=fun l i n R hn ha hz hf=>by
 simp only [List.length_cons] at hf
 simp only [List.cons_append] at ha
 obtain ⟨n,rfl⟩:∃ q,n=q+1:=⟨n - 1,by omega⟩
 rw [aCd]
 rw [ha.key,iR,if_neg (by decide)]
 rw [ha.key,iR,if_neg (by decide)]
 rw [ha.key,iR,if_neg (by decide)]
 rw [ha.key,iR,if_neg (by decide)]
 rw [ha.key,iR,decide_eq_true rfl,if_pos rfl]
 have h1:=ha.next
 rw [Gp.fin ha' hn h1 hz.g.m hz.g.a hz.g.w (by omega),aO]
 exact aHX (by simp only [List.length_cons] <;> omega)
theorem bHp (hs:lgS s=true) (hx:lgS x=true):Sq (.node 65 0 s x []) ([(3,aBF),(3,fL),(1,s),(3,[61]),(1,x)]):=fun l i n R hn ha hz hf=>by
 simp only [List.length_cons,List.length_nil] at hf
 simp only [List.cons_append,List.nil_append] at ha
 obtain ⟨n,rfl⟩:∃ q,n=q+1:=⟨n - 1,by omega⟩
 rw [aCd]
 rw [ha.key,iR,if_neg (by decide)]
 rw [ha.key,iR,if_neg (by decide)]
 rw [ha.key,iR,if_neg (by decide)]
 rw [ha.key,iR,if_neg (by decide)]
 rw [ha.key,iR,if_neg (by decide)]
 rw [ha.key,iR,decide_eq_true rfl,if_pos rfl]
 have h1:=ha.next
 rw [ks1 h1,ks0,aO]
 have h2:=h1.next
 rw [lg1 h2 hs,aO]
 have h3:=h2.next
 rw [ks1 h3,ks0,aO]
 have h4:=h3.next
 rw [lg1 h4 hx,aO]
 exact aHX (by simp only [List.length_cons,List.length_nil] <;> omega)
theorem bHV {top:Bool} (hs:mG s=true) (ha':A0 a wa):Dq top (.node 70 0 s [] [a]) ((3,yW) :: (1,s) :: (3,[61]) :: wa):=fun l i n R hn ha hz hf=>by
 simp only [List.length_cons] at hf
 simp only [List.cons_append] at ha
 obtain ⟨n,rfl⟩:∃ q,n=q+1:=⟨n - 1,by omega⟩
 rw [aA4]
 rw [ha.key,iR,decide_eq_true rfl,if_pos rfl]
 have h1:=ha.next
 rw [nm1 h1 hs,aO]
 have h2:=h1.next
 rw [h2.key,iR,if_neg (by decide)]
 rw [aXc h2]
 have h3:=h2.next
 rw [ex1 ha' hn h3 hz.st,aO]
 exact aHX (by simp only [List.length_cons] <;> omega)
theorem bHS {top:Bool} (hs:mG s=true) (ha':Pa0 a wa) (hb:A0 b wb):Dq top (.node 70 0 s [] [a,b]) ((3,yW) :: (1,s) :: (3,[58]) :: (wa++(3,[61]) :: wb)):=fun l i n R hn ha hz hf=>by
 simp only [List.length_cons,List.length_append] at hf
 simp only [List.cons_append,List.append_assoc] at ha
 obtain ⟨n,rfl⟩:∃ q,n=q+1:=⟨n - 1,by omega⟩
 rw [aA4]
 rw [ha.key,iR,decide_eq_true rfl,if_pos rfl]
 have h1:=ha.next
 rw [nm1 h1 hs,aO]
 have h2:=h1.next
 rw [h2.key,iR,decide_eq_true rfl,if_pos rfl]
 have h3:=h2.next
 rw [ty1 ha' h3 (by rw [iR]; decide) (by rw [iR]; decide),aO]
 have h4:=h3.app
 rw [aXc h4]
 have h5:=h4.next
 rw [ex1 hb hn h5 hz.st,aO]
 exact aHX (by simp only [List.length_cons,List.length_append] <;> omega)
theorem bJr {top:Bool} (hs:mG s=true) (ha':Pa0 a wa):Dq top (.node 71 0 s [] [a]) ((3,fL) :: (1,s) :: (3,[61]) :: wa):=fun l i n R hn ha hz hf=>by
 simp only [List.length_cons] at hf
 simp only [List.cons_append] at ha
 obtain ⟨n,rfl⟩:∃ q,n=q+1:=⟨n - 1,by omega⟩
 rw [aA4]
 rw [ha.key,iR,if_neg (by decide)]
 rw [ha.key,iR,decide_eq_true rfl,if_pos rfl]
 have h1:=ha.next
 rw [nm1 h1 hs,aO]
 have h2:=h1.next
 rw [aXc h2]
 have h3:=h2.next
 rw [ty1 ha' h3 hz.g.m hz.g.a,aO]
 exact aHX (by simp only [List.length_cons] <;> omega)
theorem bHZ {top:Bool} (hs:mG s=true) {ks:List Tr} (hc:aMI ks wa) (hd:(ks.map nameOf).Nodup):Dq top (.node 72 0 s [] ks) ((3,mM) :: (1,s) :: (3,[61]) :: wa):=fun l i n R hn ha hz hf=>by
 simp only [List.length_cons] at hf
 simp only [List.cons_append] at ha
 obtain ⟨n,rfl⟩:∃ q,n=q+1:=⟨n - 1,by omega⟩
 rw [aA4]
 rw [ha.key,iR,if_neg (by decide)]
 rw [ha.key,iR,if_neg (by decide)]
 rw [ha.key,iR,decide_eq_true rfl,if_pos rfl]
 have h1:=ha.next
 rw [nm1 h1 hs,aO]
 have h2:=h1.next
 rw [ks1 h2,ks0,aO]
 have h3:=h2.next
 rw [cn1 hc hd h3 hz,aO]
 exact aHX (by simp only [List.length_cons] <;> omega)
theorem bIk {top:Bool} (hs:mG s=true) (ha':Mp a wa):Dq top (.node 73 0 s [] [a]) ((3,aAH) :: (1,s) :: (3,[61]) :: wa):=fun l i n R hn ha hz hf=>by
 simp only [List.length_cons] at hf
 simp only [List.cons_append] at ha
 obtain ⟨n,rfl⟩:∃ q,n=q+1:=⟨n - 1,by omega⟩
 rw [aA4]
 rw [ha.key,iR,if_neg (by decide)]
 rw [ha.key,iR,if_neg (by decide)]
 rw [ha.key,iR,if_neg (by decide)]
 rw [ha.key,iR,decide_eq_true rfl,if_pos rfl]
 have h1:=ha.next
 rw [nm1 h1 hs,aO]
 have h2:=h1.next
 rw [aXc h2]
 have h3:=h2.next
 rw [Mp.fin ha' hn h3 hz.g hz.c hz.cs (by omega),aO]
 exact aHX (by simp only [List.length_cons] <;> omega)
theorem bGI {top:Bool} (hs:lgS s=true):Dq top (.node 76 0 s [] []) ([(3,aAZ),(1,s)]):=fun l i n R hn ha hz hf=>by
 simp only [List.length_cons,List.length_nil] at hf
 simp only [List.cons_append,List.nil_append] at ha
 obtain ⟨n,rfl⟩:∃ q,n=q+1:=⟨n - 1,by omega⟩
 rw [aA4]
 rw [ha.key,iR,if_neg (by decide)]
 rw [ha.key,iR,if_neg (by decide)]
 rw [ha.key,iR,if_neg (by decide)]
 rw [ha.key,iR,if_neg (by decide)]
 rw [ha.key,iR,decide_eq_true rfl,if_pos rfl]
 have h1:=ha.next
 rw [lg1 h1 hs,aO]
 exact aHX (by simp only [List.length_cons,List.length_nil] <;> omega)
theorem bH8 {top:Bool} (hs:lgS s=true):Dq top (.node 77 0 s [] []) ([(3,aAD),(1,s)]):=fun l i n R hn ha hz hf=>by
 simp only [List.length_cons,List.length_nil] at hf
 simp only [List.cons_append,List.nil_append] at ha
 obtain ⟨n,rfl⟩:∃ q,n=q+1:=⟨n - 1,by omega⟩
 rw [aA4]
 rw [ha.key,iR,if_neg (by decide)]
 rw [ha.key,iR,if_neg (by decide)]
 rw [ha.key,iR,if_neg (by decide)]
 rw [ha.key,iR,if_neg (by decide)]
 rw [ha.key,iR,if_neg (by decide)]
 rw [ha.key,iR,decide_eq_true rfl,if_pos rfl]
 have h1:=ha.next
 rw [lg1 h1 hs,aO]
 exact aHX (by simp only [List.length_cons,List.length_nil] <;> omega)
theorem bHc (hs:mG s=true) (ha':Gp a wa):Dq true (.node 74 0 s [] [a]) ((3,aJ3) :: (1,s) :: (3,[61]) :: wa):=fun l i n R hn ha hz hf=>by
 simp only [List.length_cons] at hf
 simp only [List.cons_append] at ha
 obtain ⟨n,rfl⟩:∃ q,n=q+1:=⟨n - 1,by omega⟩
 rw [aA4]
 rw [ha.key,iR,if_neg (by decide)]
 rw [ha.key,iR,if_neg (by decide)]
 rw [ha.key,iR,if_neg (by decide)]
 rw [ha.key,iR,if_neg (by decide)]
 rw [ha.key,iR,if_neg (by decide)]
 rw [ha.key,iR,if_neg (by decide)]
 rw [if_pos ⟨rfl,by rw [ha.key,iR,decide_eq_true rfl]⟩]
 have h1:=ha.next
 rw [nm1 h1 hs,aO]
 have h2:=h1.next
 rw [aXc h2]
 have h3:=h2.next
 rw [Gp.fin ha' hn h3 hz.g.m hz.g.a hz.g.w (by omega),aO]
 exact aHX (by simp only [List.length_cons] <;> omega)
theorem bGD (hs:mG s=true) (hx:mG x=true) (ha':Gp a wa) (hb:Mp b wb):Dq true (.node 75 0 s x [a,b]) ((3,aKb) :: (1,s) :: (3,[40]) :: (1,x) :: (3,[58]) :: (wa++(3,[41]) :: (3,[61]) :: wb)):=fun l i n R hn ha hz hf=>by
 simp only [List.length_cons,List.length_append] at hf
 simp only [List.cons_append,List.append_assoc] at ha
 obtain ⟨n,rfl⟩:∃ q,n=q+1:=⟨n - 1,by omega⟩
 rw [aA4]
 rw [ha.key,iR,if_neg (by decide)]
 rw [ha.key,iR,if_neg (by decide)]
 rw [ha.key,iR,if_neg (by decide)]
 rw [ha.key,iR,if_neg (by decide)]
 rw [ha.key,iR,if_neg (by decide)]
 rw [ha.key,iR,if_neg (by decide)]
 rw [if_neg (fun h=>absurd h.2 (by rw [ha.key,iR]; decide))]
 rw [if_pos ⟨rfl,by rw [ha.key,iR,decide_eq_true rfl]⟩]
 have h1:=ha.next
 rw [nm1 h1 hs,aO]
 have h2:=h1.next
 rw [ks1 h2,ks0,aO]
 have h3:=h2.next
 rw [nm1 h3 hx,aO]
 have h4:=h3.next
 rw [aXc h4]
 have h5:=h4.next
 rw [Gp.fin ha' hn h5 (by rw [iR]; decide) (by rw [iR]; decide) (by rw [iR]; decide) (by omega),aO]
 have h6:=h5.app
 rw [ks1 h6,ks0,aO]
 have h7:=h6.next
 rw [aXc h7]
 have h8:=h7.next
 rw [Mp.fin hb hn h8 hz.g hz.c hz.cs (by omega),aO]
 exact aHX (by simp only [List.length_cons,List.length_append] <;> omega)
theorem bHu (hs:mG s=true):Gp (.node 51 0 s [] []) [(1,s)]:=fun l i n R _ ha _ _ hf=>by
 simp only [List.length_cons,List.length_nil] at hf
 simp only [List.cons_append,List.nil_append] at ha
 obtain ⟨n,rfl⟩:∃ q,n=q+2:=⟨n - 2,by omega⟩
 refine ⟨n+1,by simp,?_⟩
 rw [rL,aGF,ha.key,kW1,if_neg (by simp),nm1 ha hs,aO,aO]
 rfl
theorem bGM {L:List TW} (hL:∀ a∈L,Sq a.1 a.2∧Hd aTF a.2):Gp (.node 50 0 [] [] (L.map Prod.fst)) ((3,kSg) :: (flW L++[(3,aHe)])):=fun l i n R hn ha _ _ hf=>by
 simp only [List.length_cons,List.length_append,List.length_nil] at hf
 simp only [List.cons_append,List.append_assoc,List.nil_append] at ha
 obtain ⟨n,rfl⟩:∃ q,n=q+2:=⟨n - 2,by omega⟩
 refine ⟨n+1,by simp,?_⟩
 rw [rL,aGF,ha.key,iR,decide_eq_true rfl,if_pos rfl]
 have h1:=ha.next
 have hz:Z ((3,aHe) :: R):=bEh R (by decide)
 rw [bDS L hL l _ n _ [] hn h1 hz (fun u hu=>by rw [iR]; exact decide_eq_false (by revert u; decide)) (by omega),aO,ks1 h1.app,ks0,aO,aO]
 simp only [List.nil_append]
 congr 1
 simp only [List.length_cons,List.length_append,List.length_nil]; omega
theorem bHA (ha':Gp a wa) (hs:lgS s=true) (hb:Pa0 b wb):Gp (.node 52 0 s [] [a,b]) (wa++(3,aEY) :: (3,fL) :: (1,s) :: (3,[61]) :: wb):=fun l i n R hn ha hm hq hf=>by
 simp only [List.length_cons,List.length_append] at hf
 simp only [List.cons_append,List.append_assoc] at ha
 obtain ⟨m,h1,h2⟩:=ha' l i n _ hn ha (by rw [iR]; decide) (by rw [iR]; decide) (by omega)
 obtain ⟨m,rfl⟩:∃ q,m=q+1:=⟨m - 1,by omega⟩
 have g0:=ha.app
 have g1:=g0.next
 have g2:=g1.next
 have g3:=g2.next
 have g4:=g3.next
 refine ⟨m,by simp only [List.length_cons,List.length_append]; omega,?_⟩
 rw [h2,aGn,g0.key,iR,decide_eq_true rfl,if_pos rfl,ks1 g1,ks0,aO,lg1 g2 hs,aO,ks1 g3,ks0,aO,ty1 hb g4 hm hq,aO]
 congr 1
 simp only [List.length_cons,List.length_append]; omega
theorem aXK {t:Tr} {w:List Wd} (h:∀ (l:List aI) (i n:Nat) (R:List Wd),Nk l→At l i (w++R)→Zg R→4 * w.length+1≤n→aDU l n i=(t,i+w.length,0)):Mp t w:=fun l i n R hn ha hz hf=>by
 obtain ⟨n,rfl⟩:∃ q,n=q+1:=⟨n - 1,by omega⟩
 exact ⟨n,by omega,by rw [yP,h l i n R hn ha hz (by omega),aO]⟩
theorem bFb (hs:lgS s=true):Mp (.node 41 0 s [] []) [(1,s)]:=aXK fun l i n R _ ha hz hf=>by
 simp only [List.length_cons,List.length_nil] at hf
 simp only [List.cons_append,List.nil_append] at ha
 obtain ⟨n,rfl⟩:∃ q,n=q+1:=⟨n - 1,by omega⟩
 rw [aDU,ha.key,kW1,if_neg (by simp),ha.key,kW1,if_neg (by simp),if_neg (fun h=>absurd h.2 (by rw [ha.next.key,hz.p]; simp)),lg1 ha hs,aO]
 rfl
theorem bId (hs:mG s=true) (ha':Mp a wa):Mp (.node 42 0 s [] [a]) ((1,s) :: (3,[40]) :: (wa++[(3,[41])])):=aXK fun l i n R hn ha _ hf=>by
 simp only [List.length_cons,List.length_append,List.length_nil] at hf
 simp only [List.cons_append,List.append_assoc,List.nil_append] at ha
 obtain ⟨n,rfl⟩:∃ q,n=q+1:=⟨n - 1,by omega⟩
 have h1:=ha.next
 have h2:=h1.next
 have e:nW ((1,s) :: (3,[40]) :: (wa++(3,[41]) :: R))=(s,true):=if_pos (c:=(1:Int)=1∧mG s=true) ⟨rfl,hs⟩
 rw [aDU,ha.key,kW1,if_neg (by simp),ha.key,kW1,if_neg (by simp),if_pos ⟨by rw [ha.name,e],by rw [h1.key,iR,decide_eq_true rfl]⟩,ha.name,e]
 rw [Mp.fin ha' hn h2 (aXI _ (by decide)) (by rw [iR]; decide) (by rw [iR]; decide) (by omega),aO,ks1 h2.app,ks0,aO]
 exact aHX (by simp only [List.length_cons,List.length_append,List.length_nil] <;> omega)
theorem bFm {L:List TW} (hL:∀ a∈L,Dq false a.1 a.2∧Hd (aKC false) a.2):Mp (.node 40 0 [] [] (L.map Prod.fst)) ((3,aLL) :: (flW L++[(3,aHe)])):=aXK fun l i n R hn ha _ hf=>by
 simp only [List.length_cons,List.length_append,List.length_nil] at hf
 simp only [List.cons_append,List.append_assoc,List.nil_append] at ha
 obtain ⟨n,rfl⟩:∃ q,n=q+1:=⟨n - 1,by omega⟩
 rw [aDU,ha.key,iR,decide_eq_true rfl,if_pos rfl]
 have h1:=ha.next
 have hz:Z ((3,aHe) :: R):=bEh R (by decide)
 rw [bEq L hL l _ n _ [] hn h1 hz (fun u hu=>by rw [iR]; exact decide_eq_false (by revert u; decide)) (by omega),aO,ks1 h1.app,ks0,aO]
 simp only [List.nil_append]
 exact aHX (by simp only [List.length_cons,List.length_append,List.length_nil] <;> omega)
theorem bIU {n:Int} (hn':n=0∨n=1) (ha':Mp a wa) (hb:Gp b wb):Mp (.node 43 n [] [] [a,b]) (wa++(3,if n=1 then [58,62] else [58]) :: wb):=fun l i k R hn ha hz hf=>by
 simp only [List.length_cons,List.length_append] at hf
 simp only [List.cons_append,List.append_assoc] at ha
 rcases hn' with rfl | rfl
 ·rw [if_neg (by decide)] at ha ⊢
  obtain ⟨m,h1,h2⟩:=ha' l i k _ hn ha (aXI _ (by decide)) (by omega)
  obtain ⟨m,rfl⟩:∃ q,m=q+1:=⟨m - 1,by omega⟩
  have g0:=ha.app
  refine ⟨m,by simp only [List.length_cons,List.length_append]; omega,?_⟩
  rw [h2,aD3,g0.key,iR,decide_eq_true rfl,if_pos rfl,Gp.fin hb hn g0.next hz.m hz.a hz.w (by omega),aO]
  congr 1
  simp only [List.length_cons,List.length_append]; omega
 ·rw [if_pos rfl] at ha ⊢
  obtain ⟨m,h1,h2⟩:=ha' l i k _ hn ha (aXI _ (by decide)) (by omega)
  obtain ⟨m,rfl⟩:∃ q,m=q+1:=⟨m - 1,by omega⟩
  have g0:=ha.app
  refine ⟨m,by simp only [List.length_cons,List.length_append]; omega,?_⟩
  rw [h2,aD3,g0.key,iR,if_neg (by decide),g0.key,iR,decide_eq_true rfl,if_pos rfl,Gp.fin hb hn g0.next hz.m hz.a hz.w (by omega),aO]
  congr 1
  simp only [List.length_cons,List.length_append]; omega
end
end Go.Proofs.YtjhfgiieicloeaaGreatDoor

/- Every module, signature, specification, declaration of a form has words: they are written, and parsed. Printed by gen9/p2.py. -/
namespace Go.Proofs.YtjhfgiieicloeaaGreatDoor
open Go Go.Am Go.Sx
theorem eE (x:Wd):jn [x]=x.2:=by simp [jn,jt]
theorem bEt {w:List Wd} (h:w≠[]) (ht:∀ x∈w,Tk x):jn w≠[]:=by
 cases w with
 | nil=>exact absurd rfl h
 | cons x r =>
  intro e
  have h1:=(ht x List.mem_cons_self).1
  rw [aEm] at e
  exact h1 (List.append_eq_nil_iff.1 e).1
theorem bAU:∀ Ls:List (List Wd),(∀ v∈Ls,∀ x∈v,Tk x)→jt Ls.flatten=Lib.joinTail [32] ((Ls.map jn).filter ne)
 | [],_=>rfl
 | w :: Ls,h=>by
  have ih:=bAU Ls fun v hv=>h v (List.mem_cons_of_mem _ hv)
  rw [List.flatten_cons,aAq,List.map_cons,ih]
  by_cases hw:w=[]
  ·subst hw; rfl
  ·rw [aQx (bEt hw (h w List.mem_cons_self)),aFs,rO hw]; simp
theorem aSz:∀ Ls:List (List Wd),(∀ v∈Ls,∀ x∈v,Tk x)→jn Ls.flatten=jf (Ls.map jn)
 | [],_=>rfl
 | w :: Ls,h=>by
  have hr:∀ v∈Ls,∀ x∈v,Tk x:=fun v hv=>h v (List.mem_cons_of_mem _ hv)
  rw [List.flatten_cons,List.map_cons]
  by_cases hw:w=[]
  ·subst hw
   rw [List.nil_append,aSz Ls hr]; rfl
  ·rw [aKr hw,bAU Ls hr,bFr (bEt hw (h w List.mem_cons_self))]
theorem Ev.eq {α:Type} {f:Nat→Option α} {a b:α} (h:Ev f a) (e:a=b):Ev f b:=e ▸ h
structure Wq (f:Nat→Tr→Option (List UInt8)) (t:Tr) (w:List Wd):Prop where
 ne:w≠[]
 tk:∀ x∈w,Tk x
 pr:Ev (fun K=>f K t) (jn w)
 len:(jn w).length+1≤400 * t.w
theorem wQ {f:Nat→Tr→Option (List UInt8)} {t:Tr} {w:List Wd} (Ls:List (List Wd)) (e:Ls.flatten=w) (hk:∀ v∈Ls,∀ x∈v,Tk x) (hne:w≠[]) (pr:Ev (fun K=>f K t) (jf (Ls.map jn))) (len:lw (Ls.map jn)+1≤400 * t.w):Wq f t w:=by
 subst e
 have h:=aSz Ls hk
 have h2:=aVT (Ls.map jn)
 refine ⟨hne,fun x hx=>?_,by rw [h]; exact pr,by rw [h]; omega⟩
 obtain ⟨v,hv,hx⟩:=List.mem_flatten.1 hx
 exact hk v hv x hx
def aPb:List (List UInt8):=[yW,fL,mM,aAH,aAD,aBF,aAZ,aJ3,aKb,aLL,kSg,aHe,aEY]
theorem aGc {s:List UInt8} (h:s∈aPb):Tk (3,s):=by
 have h1:∀ u∈aPb,u∈aWM:=by decide
 have h2:∀ u∈aPb,u≠[]:=by decide
 have h3:∀ u∈aPb,∀ b∈u,97≤b.toNat∧b.toNat<123:=by decide
 have h4:∀ u∈aPb,u.length≤100:=by decide
 exact aOj (h1 s h) (h2 s h) (h3 s h) (h4 s h)
theorem bJY:Tk (3,[58,62]):=aXs (b:=58) (w:=[62]) (by decide) (by decide) (by decide) fun tail ht=>by
 rcases ht with rfl | ⟨t,rfl⟩
 ·exact ⟨rfl,rfl⟩
 ·exact ⟨rfl,rfl⟩
theorem bI2 {y:Tr} (h:Sm y) (hi:isT 1 y=true):∃ w,Bk y w∧Ev (fun K=>jG K y) (jn w):=by
 obtain ⟨hg,hw,hs,hd⟩:=h
 obtain ⟨w,b⟩:=(bCW y hw).1 hi
 have hf:aOO y:=⟨by omega,fun _=>hg⟩
 have h0:chk 1 y=0:=by rw [aPY (aQC y hg) hs hd,if_pos hi]
 have v0:=b.wr 0
 rw [bBC,bCo] at v0
 have e:Ev (fun K=>aA2 K y) (jn w,0):=Ev.congr (f:=fun K=>_) (Ev.bind (bBA hf) (Ev.nF h0 (Ev.bind v0 (Ev.pure' rfl)))) (fun _=>rfl)
 exact ⟨w,b,Ev.congr (f:=fun K=>_) (Ev.bind e Ev.pure) (fun k=>by rw [jG])⟩
theorem bJF {y:Tr} (h:Sm y) (hi:isT 2 y=true):∃ w,Bx y w∧Ev (fun K=>uF K y) (jn w)∧(jn w).length+8≤200 * y.w:=by
 obtain ⟨hg,hw,hs,hd⟩:=h
 obtain ⟨l1,l2⟩:=(bHW y).1 hi
 obtain ⟨w,b⟩:=(bHo y hg hw hs hd (by omega)).1 hi
 have hf:aOO y:=⟨by omega,fun _=>hg⟩
 have h0:chk 2 y=0:=by rw [aPY (aQC y hg) hs hd,if_pos hi]
 have e:Ev (fun K=>aGh K y) (jn w,0):=Ev.congr (f:=fun K=>_) (Ev.bind (bES hf) (Ev.nF h0 (Ev.bind b.pw.zero (Ev.pure' rfl)))) (fun _=>rfl)
 have:=b.len
 exact ⟨w,b,Ev.congr (f:=fun K=>_) (Ev.bind e Ev.pure) (fun k=>by rw [uF]),by omega⟩
theorem aZ2 {f:Nat→Tr→Option (List UInt8)} {p:Tr→List Wd→Prop}:∀ r:List Tr,(∀ y∈r,∃ w,Wq f y w∧p y w)→∃ L:List TW,r=L.map Prod.fst∧∀ a∈L,Wq f a.1 a.2∧p a.1 a.2
 | [],_=>⟨[],rfl,fun a h=>by cases h⟩
 | y :: r,h=>by
  obtain ⟨L,rfl,hL⟩:=aZ2 r fun z hz=>h z (List.mem_cons_of_mem _ hz)
  obtain ⟨v,hv⟩:=h y List.mem_cons_self
  refine ⟨(y,v) :: L,rfl,fun a ha=>?_⟩
  rcases List.mem_cons.1 ha with rfl | ha
  ·exact hv
  ·exact hL a ha
def toX (a:TW):TX:=(a.1,jn a.2)
theorem bA1 (L:List TW):(L.map toX).map Prod.fst=L.map Prod.fst:=by rw [List.map_map]; rfl
theorem aSH (L:List TW):(L.map toX).map Prod.snd=(L.map Prod.snd).map jn:=by rw [List.map_map,List.map_map]; rfl
theorem aSV {f:Nat→Tr→Option (List UInt8)}:∀ L:List TW,(∀ a∈L,Wq f a.1 a.2)→lw ((L.map Prod.snd).map jn)≤400 * wL (L.map Prod.fst)
 | [],_=>by simp [lw]
 | a :: L,h=>by
  have h1:=(h a List.mem_cons_self).len
  have h2:=aSV L fun x hx=>h x (List.mem_cons_of_mem _ hx)
  simp only [List.map_cons,lw,aD]
  omega
theorem aWL {f:Nat→Tr→Option (List UInt8)} {L:List TW} (h:∀ a∈L,Wq f a.1 a.2):∀ v∈L.map Prod.snd,∀ x∈v,Tk x:=fun v hv=>by
 obtain ⟨a,ha,rfl⟩:=List.mem_map.1 hv
 exact (h a ha).tk
theorem bC7:∀ (l:List Tr),(∀ y∈l,isT 8 y=true)→(∀ y∈l,Sm y)→∃ L:List CW,l=L.map cTr∧∀ a∈L,CB a∧Ev (fun K=>jG K a.2.1) (jn a.2.2)∧Sm a.2.1
 | [],_,_=>⟨[],rfl,fun a h=>by cases h⟩
 | x :: l,h,hs=>by
  obtain ⟨L,rfl,hL⟩:=bC7 l (fun z hz=>h z (List.mem_cons_of_mem _ hz)) fun z hz=>hs z (List.mem_cons_of_mem _ hz)
  obtain ⟨c,t,rfl,hc,ht⟩:=bG3 (h x List.mem_cons_self)
  have st:=(hs _ List.mem_cons_self).kid (y:=t) (by simp)
  obtain ⟨v,hb,hv⟩:=bI2 st ht
  refine ⟨(c,t,v) :: L,rfl,fun a ha=>?_⟩
  rcases List.mem_cons.1 ha with rfl | ha
  ·exact ⟨⟨hc,hb⟩,hv,st⟩
  ·exact hL a ha
def toN (a:CW):CN:=(a.1,a.2.1,jn a.2.2)
theorem bGp {s:List UInt8} (h:mG s=true):s≠[]:=by rintro rfl; exact absurd h (by decide +kernel)
theorem bHY {a:CW} (h:CB a):cnX (toN a)=cT a:=by
 have h2:jn a.2.2≠[]:=bEt h.2.ne (fun x hx=>(h.2.gd x hx).tk)
 show jf [a.1,[111,102],jn a.2.2]=a.1++[32,111,102,32]++jn a.2.2
 rw [bFr (bGp h.1),aQx (by simp),aQx h2,aFs,aFs]
 simp [Lib.joinTail]
theorem bGg {n:Int} {nm mk:List UInt8} {ks:List Tr} (hs:∀ y∈ks,Sm y) (hw:wL ks≤1048576) (h:mG nm=true) (hk:rM (isT 8) [] ks=true) (h0:ks≠[]) :
  ∃ w,aMI ks w∧(ks.map nameOf).Nodup∧Wq eD (.node 62 n nm mk ks) ((3,mM) :: (1,nm) :: (3,[61]) :: w)∧Wq cG (.node 72 n nm mk ks) ((3,mM) :: (1,nm) :: (3,[61]) :: w):=by
 obtain ⟨hall,hnd⟩:=aJg ks [] hk
 obtain ⟨L,rfl,hL⟩:=bC7 ks (fun y hy=>(hall y hy).1) hs
 have hB:∀ x∈L,CB x:=fun x hx=>(hL x hx).1
 have hn:=lG h
 have hl:=aIW (L.map cTr)
 rw [List.length_map] at hl
 cases L with
 | nil=>exact absurd rfl h0
 | cons c r =>
  have hlen:=bDd c r hB
  have hjj:=bBl c r hB
  have e1:((c :: r).map toN).map cnT=(c :: r).map cTr:=by rw [List.map_map]; rfl
  have e2:aVo ((c :: r).map toN)=jn (csW (c :: r)):=by
   unfold aVo
   rw [List.map_map,hjj]
   congr 1
   exact List.map_congr_left fun a ha=>bHY (hB a ha)
  have ok:∀ a∈(c :: r).map toN,bFV a:=fun a ha=>by
   obtain ⟨b,hb,rfl⟩:=List.mem_map.1 ha
   obtain ⟨⟨q1,q2⟩,q3,q4⟩:=hL b hb
   have:=lG q1
   have:=q2.len
   have:=q4.w
   exact ⟨show b.1.length≤1000 by omega,show (jn b.2.2).length≤109951162777 by omega,q3⟩
  have l2:((c :: r).map toN).length≤1048576:=by rw [List.length_map]; omega
  have l3:(aVo ((c :: r).map toN)).length≤109951162777:=by rw [e2]; omega
  have p1:=bGW (n:=n) (nm:=nm) (mk:=mk) (by omega) ok l2 l3
  have p2:=bG1 (n:=n) (nm:=nm) (mk:=mk) (by omega) ok l2 l3
  rw [e1,e2] at p1 p2
  have hk2:∀ v∈[[(3,mM)],[(1,nm)],[(3,[61])],csW (c :: r)],∀ x∈v,Tk x:=List.forall_mem_cons.2 ⟨bD (aGc (by decide)),List.forall_mem_cons.2 ⟨bD (aA5 h),List.forall_mem_cons.2 ⟨bD (sK (by decide)),List.forall_mem_cons.2 ⟨fun x hx=>(bEy _ hB x hx).tk,fun _ h=>nomatch h⟩⟩⟩⟩
  have len:lw (([[(3,mM)],[(1,nm)],[(3,[61])],csW (c :: r)]:List (List Wd)).map jn)+1≤400 * (1+wL ((c :: r).map cTr)):=by
   simp only [List.map_cons,List.map_nil,eE,lw,List.length_cons,List.length_nil] at hlen ⊢
   omega
  refine ⟨csW (c :: r),aUx c r hB,hnd,wQ [[(3,mM)],[(1,nm)],[(3,[61])],csW (c :: r)] (by simp) hk2 (by simp) (Ev.eq p1 (by simp only [List.map_cons,List.map_nil,eE])) (by rw [aJ]; exact len),wQ [[(3,mM)],[(1,nm)],[(3,[61])],csW (c :: r)] (by simp) hk2 (by simp) (Ev.eq p2 (by simp only [List.map_cons,List.map_nil,eE])) (by rw [aJ]; exact len)⟩
abbrev BM (t:Tr):Prop:=∃ w,Wq fV t w∧Mp t w
abbrev BG (t:Tr):Prop:=∃ w,Wq eS t w∧Gp t w
abbrev BS (t:Tr):Prop:=∃ w,Wq eD t w∧Sq t w∧Hd aTF w
abbrev BD (top:Bool) (t:Tr):Prop:=∃ w,Wq cG t w∧Dq top t w∧Hd (aKC top) w
theorem bEC:∀ t:Tr,Sm t→(isT 3 t=true→BM t)∧(isT 4 t=true→BG t)∧(isT 5 t=true→BS t)∧(∀ top,isT 6 t=true→(top=false→kindOf t≠74∧kindOf t≠75)→BD top t):=Tr.ind
 (fun h=>by cases h.g)
 fun k n nm mk ks ih hs=>by
  have hw:=hs.w
  rw [aJ] at hw
  have sub:∀ y∈ks,Sm y:=fun y hy=>hs.kid hy
  have ty:∀ y∈ks,isT 1 y=true→∃ w,Bk y w∧Ev (fun K=>jG K y) (jn w):=fun y hy=>bI2 (sub y hy)
  have ex:∀ y∈ks,isT 2 y=true→∃ w,Bx y w∧Ev (fun K=>uF K y) (jn w)∧(jn w).length+8≤200 * y.w:=fun y hy=>bJF (sub y hy)
  have mo:∀ y∈ks,isT 3 y=true→BM y:=fun y hy=>(ih y hy (sub y hy)).1
  have si:∀ y∈ks,isT 4 y=true→BG y:=fun y hy=>(ih y hy (sub y hy)).2.1
  have sp:∀ y∈ks,isT 5 y=true→BS y:=fun y hy=>(ih y hy (sub y hy)).2.2.1
  have de:∀ y∈ks,isT 6 y=true∧kindOf y≠74∧kindOf y≠75→BD false y:=fun y hy h=>(ih y hy (sub y hy)).2.2.2 false h.1 fun _=>h.2
  clear ih hs
  refine ⟨fun hi=>?_,fun hi=>?_,fun hi=>?_,fun top hi ht=>?_⟩
  ·cases bIA hi with
   | strc ks hk =>
    obtain ⟨L,rfl,hL⟩:=aZ2 ks (fun y hy=>de y hy (hk y hy))
    have hq:=fun a ha=>(hL a ha).1
    have hl:=aSV L hq
    have hj:=aVT ((L.map Prod.snd).map jn)
    have hf:=aSz (L.map Prod.snd) (aWL hq)
    have p:=bFf (n:=0) (nm:=[]) (mk:=[]) (L:=L.map toX) (fun a ha=>by
     obtain ⟨b,hb,rfl⟩:=List.mem_map.1 ha
     exact (hq b hb).pr) (by rw [aSH]; omega)
    rw [bA1,aSH,← hf] at p
    refine ⟨_,wQ [[(3,aLL)],flW L,[(3,aHe)]] (by simp <;> rfl) (List.forall_mem_cons.2 ⟨bD (aGc (by decide)),List.forall_mem_cons.2 ⟨fun x hx=>?_,List.forall_mem_cons.2 ⟨bD (aGc (by decide)),fun _ h=>nomatch h⟩⟩⟩) (by simp) (Ev.eq p (by simp only [List.map_cons,List.map_nil,eE] <;> rfl)) ?_,bFm fun a ha=>(hL a ha).2⟩
    ·obtain ⟨v,hv,hx⟩:=List.mem_flatten.1 hx
     exact aWL hq v hv x hx
    ·rw [← hf] at hj
     simp only [List.map_cons,List.map_nil,eE,lw,List.length_cons,List.length_nil,aJ]
     show 6+1+((jn (L.map Prod.snd).flatten).length+1+_)+1≤_
     omega
   | path s h =>
    have ls:=aIo h
    exact ⟨_,wQ [[(1,nm)]] rfl (List.forall_mem_cons.2 ⟨bD (aC0 (aC6 h)),fun _ h=>nomatch h⟩) (by simp) (Ev.eq bFs (by
     have h0:nm≠[]:=by rintro rfl; exact absurd h (by decide +kernel)
     simp only [List.map_cons,List.map_nil,eE]
     rw [bFr h0]; simp [Lib.joinTail])) (by simp only [List.map_cons,List.map_nil,eE,lw,aJ,aK]; omega),bFb h⟩
   | app s a h ha =>
    obtain ⟨wa,a9,a0⟩:=mo a (by simp) ha
    have a1:=a9.pr
    have a2:=a9.len
    have ak:=a9.tk
    rw [aD,aK] at hw
    have lnm:=lG h
    exact ⟨_,wQ [[(1,nm)],[(3,[40])],wa,[(3,[41])]] (by simp <;> rfl) (List.forall_mem_cons.2 ⟨bD (aA5 h),List.forall_mem_cons.2 ⟨bD (sK (by decide)),List.forall_mem_cons.2 ⟨ak,List.forall_mem_cons.2 ⟨bD (sK (by decide)),fun _ h=>nomatch h⟩⟩⟩⟩) (by simp) (Ev.eq (bG2 (by omega) a1 (by omega)) (by simp only [List.map_cons,List.map_nil,eE] <;> rfl)) (by simp only [List.map_cons,List.map_nil,eE,lw,List.length_cons,List.length_nil,aJ,aD,aK]; omega),bId h a0⟩
   | sl n a b hn ha hb =>
    obtain ⟨wa,a9,a0⟩:=mo a (by simp) ha
    have a1:=a9.pr
    have a2:=a9.len
    obtain ⟨wb,b9,b0⟩:=si b (by simp) hb
    have b1:=b9.pr
    have b2:=b9.len
    rw [aD,aD,aK] at hw
    have tg:∀ n:Int,Tk (3,if n=1 then [58,62] else [58]):=fun n=>by
     split
     ·exact bJY
     ·exact sK (by decide)
    have lg:(if n=1 then ([58,62]:List UInt8) else [58]).length≤2:=by split <;> decide
    exact ⟨_,wQ [wa,[(3,if n=1 then [58,62] else [58])],wb] (by simp <;> rfl) (List.forall_mem_cons.2 ⟨a9.tk,List.forall_mem_cons.2 ⟨bD (tg n),List.forall_mem_cons.2 ⟨b9.tk,fun _ h=>nomatch h⟩⟩⟩) (by simp) (Ev.eq (bIJ a1 (by omega) b1 (by omega)) (by simp only [List.map_cons,List.map_nil,eE] <;> rfl)) (by simp only [List.map_cons,List.map_nil,eE,lw,aJ,aD,aK]; omega),bIU hn a0 b0⟩
  ·cases bJi hi with
   | bod ks hk =>
    obtain ⟨L,rfl,hL⟩:=aZ2 ks (fun y hy=>sp y hy (hk y hy))
    have hq:=fun a ha=>(hL a ha).1
    have hl:=aSV L hq
    have hj:=aVT ((L.map Prod.snd).map jn)
    have hf:=aSz (L.map Prod.snd) (aWL hq)
    have p:=bHe (n:=0) (nm:=[]) (mk:=[]) (L:=L.map toX) (fun a ha=>by
     obtain ⟨b,hb,rfl⟩:=List.mem_map.1 ha
     exact (hq b hb).pr) (by rw [aSH]; omega)
    rw [bA1,aSH,← hf] at p
    refine ⟨_,wQ [[(3,kSg)],flW L,[(3,aHe)]] (by simp <;> rfl) (List.forall_mem_cons.2 ⟨bD (aGc (by decide)),List.forall_mem_cons.2 ⟨fun x hx=>?_,List.forall_mem_cons.2 ⟨bD (aGc (by decide)),fun _ h=>nomatch h⟩⟩⟩) (by simp) (Ev.eq p (by simp only [List.map_cons,List.map_nil,eE] <;> rfl)) ?_,bGM fun a ha=>(hL a ha).2⟩
    ·obtain ⟨v,hv,hx⟩:=List.mem_flatten.1 hx
     exact aWL hq v hv x hx
    ·rw [← hf] at hj
     simp only [List.map_cons,List.map_nil,eE,lw,List.length_cons,List.length_nil,aJ]
     show 3+1+((jn (L.map Prod.snd).flatten).length+1+_)+1≤_
     omega
   | nam s h =>
    have ls:=lG h
    exact ⟨_,wQ [[(1,nm)]] rfl (List.forall_mem_cons.2 ⟨bD (aA5 h),fun _ h=>nomatch h⟩) (by simp) (Ev.eq bGH (by
     simp only [List.map_cons,List.map_nil,eE]
     rw [bFr (bGp h)]; simp [Lib.joinTail])) (by simp only [List.map_cons,List.map_nil,eE,lw,aJ,aK]; omega),bHu h⟩
   | whr s a b h ha hb =>
    obtain ⟨wa,a9,a0⟩:=si a (by simp) ha
    have a1:=a9.pr
    have a2:=a9.len
    have ak:=a9.tk
    obtain ⟨wb,b0,b1⟩:=ty b (by simp) hb
    have b2:=b0.len
    have bk:∀ x∈wb,Tk x:=fun x hx=>(b0.gd x hx).tk
    rw [aD,aD,aK] at hw
    have lnm:=aIo h
    have e2:(jn [(3,aEY),(3,fL)]).length≤12:=by decide
    exact ⟨_,wQ [wa,[(3,aEY),(3,fL)],[(1,nm)],[(3,[61])],wb] (by simp <;> rfl) (List.forall_mem_cons.2 ⟨ak,List.forall_mem_cons.2 ⟨mem_cons (aGc (by decide)) (bD (aGc (by decide))),List.forall_mem_cons.2 ⟨bD (aC0 (aC6 h)),List.forall_mem_cons.2 ⟨bD (sK (by decide)),List.forall_mem_cons.2 ⟨bk,fun _ h=>nomatch h⟩⟩⟩⟩⟩) (by intro e; exact a9.ne (List.append_eq_nil_iff.1 e).1) (Ev.eq (bHB (by omega) a1 (by omega) b1 (by omega)) (by simp only [List.map_cons,List.map_nil,eE] <;> rfl)) (by simp only [List.map_cons,List.map_nil,eE,lw,List.length_cons,List.length_nil,aJ,aD,aK]; omega),bHA a0 h b0.p0⟩
  ·cases bJo hi with
   | val s a h ha =>
    obtain ⟨wa,a0,a1⟩:=ty a (by simp) ha
    have a2:=a0.len
    have ak:∀ x∈wa,Tk x:=fun x hx=>(a0.gd x hx).tk
    rw [aD,aK] at hw
    have lnm:=lG h
    exact ⟨_,wQ [[(3,yW)],[(1,nm)],[(3,[58])],wa] (by simp <;> rfl) (List.forall_mem_cons.2 ⟨bD (aGc (by decide)),List.forall_mem_cons.2 ⟨bD (aA5 h),List.forall_mem_cons.2 ⟨bD (sK (by decide)),List.forall_mem_cons.2 ⟨ak,fun _ h=>nomatch h⟩⟩⟩⟩) (by simp) (Ev.eq (bIm (by omega) a1 (by omega)) (by simp only [List.map_cons,List.map_nil,eE] <;> rfl)) (by simp only [List.map_cons,List.map_nil,eE,lw,List.length_cons,List.length_nil,aJ,aD,aK]; omega),bHN h a0.p0,⟨_,_,rfl,(by decide)⟩⟩
   | ty1 s a h ha =>
    obtain ⟨wa,a0,a1⟩:=ty a (by simp) ha
    have a2:=a0.len
    have ak:∀ x∈wa,Tk x:=fun x hx=>(a0.gd x hx).tk
    rw [aD,aK] at hw
    have lnm:=lG h
    exact ⟨_,wQ [[(3,fL)],[(1,nm)],[(3,[61])],wa] (by simp <;> rfl) (List.forall_mem_cons.2 ⟨bD (aGc (by decide)),List.forall_mem_cons.2 ⟨bD (aA5 h),List.forall_mem_cons.2 ⟨bD (sK (by decide)),List.forall_mem_cons.2 ⟨ak,fun _ h=>nomatch h⟩⟩⟩⟩) (by simp) (Ev.eq (bHM (by omega) a1 (by omega)) (by simp only [List.map_cons,List.map_nil,eE] <;> rfl)) (by simp only [List.map_cons,List.map_nil,eE,lw,List.length_cons,List.length_nil,aJ,aD,aK]; omega),bHC h a0.p0,⟨_,_,rfl,(by decide)⟩⟩
   | ty0 s h =>
    have lnm:=lG h
    exact ⟨_,wQ [[(3,fL)],[(1,nm)]] (by simp <;> rfl) (List.forall_mem_cons.2 ⟨bD (aGc (by decide)),List.forall_mem_cons.2 ⟨bD (aA5 h),fun _ h=>nomatch h⟩⟩) (by simp) (Ev.eq (bHt (by omega)) (by simp only [List.map_cons,List.map_nil,eE] <;> rfl)) (by simp only [List.map_cons,List.map_nil,eE,lw,List.length_cons,List.length_nil,aJ,aK]; omega),bHd h,⟨_,_,rfl,(by decide)⟩⟩
   | dat s ks h hk h0 =>
    obtain ⟨w,h1,h2,h3,_⟩:=bGg (n:=0) (mk:=[]) sub (by omega) h hk h0
    exact ⟨_,h3,bGJ h h1 h2,⟨_,_,rfl,by decide⟩⟩
   | str s a h ha =>
    obtain ⟨wa,a9,a0⟩:=si a (by simp) ha
    have a1:=a9.pr
    have a2:=a9.len
    have ak:=a9.tk
    rw [aD,aK] at hw
    have lnm:=lG h
    exact ⟨_,wQ [[(3,aAH)],[(1,nm)],[(3,[58])],wa] (by simp <;> rfl) (List.forall_mem_cons.2 ⟨bD (aGc (by decide)),List.forall_mem_cons.2 ⟨bD (aA5 h),List.forall_mem_cons.2 ⟨bD (sK (by decide)),List.forall_mem_cons.2 ⟨ak,fun _ h=>nomatch h⟩⟩⟩⟩) (by simp) (Ev.eq (bHx (by omega) a1 (by omega)) (by simp only [List.map_cons,List.map_nil,eE] <;> rfl)) (by simp only [List.map_cons,List.map_nil,eE,lw,List.length_cons,List.length_nil,aJ,aD,aK]; omega),bGC h a0,⟨_,_,rfl,(by decide)⟩⟩
   | inc a ha =>
    obtain ⟨wa,a9,a0⟩:=si a (by simp) ha
    have a1:=a9.pr
    have a2:=a9.len
    have ak:=a9.tk
    rw [aD,aK] at hw
    exact ⟨_,wQ [[(3,aAD)],wa] (by simp <;> rfl) (List.forall_mem_cons.2 ⟨bD (aGc (by decide)),List.forall_mem_cons.2 ⟨ak,fun _ h=>nomatch h⟩⟩) (by simp) (Ev.eq (bIh a1 (by omega)) (by simp only [List.map_cons,List.map_nil,eE] <;> rfl)) (by simp only [List.map_cons,List.map_nil,eE,lw,List.length_cons,List.length_nil,aJ,aD,aK]; omega),bGP a0,⟨_,_,rfl,(by decide)⟩⟩
   | shr s x h hx =>
    have lnm:=aIo h
    have lmk:=aIo hx
    have e2:(jn [(3,aBF),(3,fL)]).length≤12:=by decide
    exact ⟨_,wQ [[(3,aBF),(3,fL)],[(1,nm)],[(3,[61])],[(1,mk)]] (by simp <;> rfl) (List.forall_mem_cons.2 ⟨mem_cons (aGc (by decide)) (bD (aGc (by decide))),List.forall_mem_cons.2 ⟨bD (aC0 (aC6 h)),List.forall_mem_cons.2 ⟨bD (sK (by decide)),List.forall_mem_cons.2 ⟨bD (aC0 (aC6 hx)),fun _ h=>nomatch h⟩⟩⟩⟩) (by simp) (Ev.eq (bHJ (by omega) (by omega)) (by simp only [List.map_cons,List.map_nil,eE] <;> rfl)) (by simp only [List.map_cons,List.map_nil,eE,lw,List.length_cons,List.length_nil,aJ,aK]; omega),bHp h hx,⟨_,_,rfl,(by decide)⟩⟩
  ·cases bI3 hi with
   | va1 s a h ha =>
    obtain ⟨wa,a0,a1,a2⟩:=ex a (by simp) ha
    have ak:=a0.tk
    rw [aD,aK] at hw
    have lnm:=lG h
    exact ⟨_,wQ [[(3,yW)],[(1,nm)],[(3,[61])],wa] (by simp <;> rfl) (List.forall_mem_cons.2 ⟨bD (aGc (by decide)),List.forall_mem_cons.2 ⟨bD (aA5 h),List.forall_mem_cons.2 ⟨bD (sK (by decide)),List.forall_mem_cons.2 ⟨ak,fun _ h=>nomatch h⟩⟩⟩⟩) (by simp) (Ev.eq (bG4 (by omega) a1 (by omega)) (by simp only [List.map_cons,List.map_nil,eE] <;> rfl)) (by simp only [List.map_cons,List.map_nil,eE,lw,List.length_cons,List.length_nil,aJ,aD,aK]; omega),bHV h a0.a0,⟨_,_,rfl,(by cases top <;> decide)⟩⟩
   | va2 s a b h ha hb =>
    obtain ⟨wa,a0,a1⟩:=ty a (by simp) ha
    have a2:=a0.len
    have ak:∀ x∈wa,Tk x:=fun x hx=>(a0.gd x hx).tk
    obtain ⟨wb,b0,b1,b2⟩:=ex b (by simp) hb
    have bk:=b0.tk
    rw [aD,aD,aK] at hw
    have lnm:=lG h
    exact ⟨_,wQ [[(3,yW)],[(1,nm)],[(3,[58])],wa,[(3,[61])],wb] (by simp <;> rfl) (List.forall_mem_cons.2 ⟨bD (aGc (by decide)),List.forall_mem_cons.2 ⟨bD (aA5 h),List.forall_mem_cons.2 ⟨bD (sK (by decide)),List.forall_mem_cons.2 ⟨ak,List.forall_mem_cons.2 ⟨bD (sK (by decide)),List.forall_mem_cons.2 ⟨bk,fun _ h=>nomatch h⟩⟩⟩⟩⟩⟩) (by simp) (Ev.eq (bHz (by omega) a1 (by omega) b1 (by omega)) (by simp only [List.map_cons,List.map_nil,eE] <;> rfl)) (by simp only [List.map_cons,List.map_nil,eE,lw,List.length_cons,List.length_nil,aJ,aD,aK]; omega),bHS h a0.p0 b0.a0,⟨_,_,rfl,(by cases top <;> decide)⟩⟩
   | ty s a h ha =>
    obtain ⟨wa,a0,a1⟩:=ty a (by simp) ha
    have a2:=a0.len
    have ak:∀ x∈wa,Tk x:=fun x hx=>(a0.gd x hx).tk
    rw [aD,aK] at hw
    have lnm:=lG h
    exact ⟨_,wQ [[(3,fL)],[(1,nm)],[(3,[61])],wa] (by simp <;> rfl) (List.forall_mem_cons.2 ⟨bD (aGc (by decide)),List.forall_mem_cons.2 ⟨bD (aA5 h),List.forall_mem_cons.2 ⟨bD (sK (by decide)),List.forall_mem_cons.2 ⟨ak,fun _ h=>nomatch h⟩⟩⟩⟩) (by simp) (Ev.eq (bIy (by omega) a1 (by omega)) (by simp only [List.map_cons,List.map_nil,eE] <;> rfl)) (by simp only [List.map_cons,List.map_nil,eE,lw,List.length_cons,List.length_nil,aJ,aD,aK]; omega),bJr h a0.p0,⟨_,_,rfl,(by cases top <;> decide)⟩⟩
   | dat s ks h hk h0 =>
    obtain ⟨w,h1,h2,_,h3⟩:=bGg (n:=0) (mk:=[]) sub (by omega) h hk h0
    exact ⟨_,h3,bHZ h h1 h2,⟨_,_,rfl,by cases top <;> decide⟩⟩
   | str s a h ha =>
    obtain ⟨wa,a9,a0⟩:=mo a (by simp) ha
    have a1:=a9.pr
    have a2:=a9.len
    have ak:=a9.tk
    rw [aD,aK] at hw
    have lnm:=lG h
    exact ⟨_,wQ [[(3,aAH)],[(1,nm)],[(3,[61])],wa] (by simp <;> rfl) (List.forall_mem_cons.2 ⟨bD (aGc (by decide)),List.forall_mem_cons.2 ⟨bD (aA5 h),List.forall_mem_cons.2 ⟨bD (sK (by decide)),List.forall_mem_cons.2 ⟨ak,fun _ h=>nomatch h⟩⟩⟩⟩) (by simp) (Ev.eq (bGA (by omega) a1 (by omega)) (by simp only [List.map_cons,List.map_nil,eE] <;> rfl)) (by simp only [List.map_cons,List.map_nil,eE,lw,List.length_cons,List.length_nil,aJ,aD,aK]; omega),bIk h a0,⟨_,_,rfl,(by cases top <;> decide)⟩⟩
   | sig s a h ha =>
    have et:top=true:=by
     cases top with
     | true=>rfl
     | false=>exact absurd rfl (ht rfl).1
    subst et
    obtain ⟨wa,a9,a0⟩:=si a (by simp) ha
    have a1:=a9.pr
    have a2:=a9.len
    have ak:=a9.tk
    rw [aD,aK] at hw
    have lnm:=lG h
    exact ⟨_,wQ [[(3,aJ3)],[(1,nm)],[(3,[61])],wa] (by simp <;> rfl) (List.forall_mem_cons.2 ⟨bD (aGc (by decide)),List.forall_mem_cons.2 ⟨bD (aA5 h),List.forall_mem_cons.2 ⟨bD (sK (by decide)),List.forall_mem_cons.2 ⟨ak,fun _ h=>nomatch h⟩⟩⟩⟩) (by simp) (Ev.eq (bHU (by omega) a1 (by omega)) (by simp only [List.map_cons,List.map_nil,eE] <;> rfl)) (by simp only [List.map_cons,List.map_nil,eE,lw,List.length_cons,List.length_nil,aJ,aD,aK]; omega),bHc h a0,⟨_,_,rfl,(by decide)⟩⟩
   | fun_ s x a b h hx ha hb =>
    have et:top=true:=by
     cases top with
     | true=>rfl
     | false=>exact absurd rfl (ht rfl).2
    subst et
    obtain ⟨wa,a9,a0⟩:=si a (by simp) ha
    have a1:=a9.pr
    have a2:=a9.len
    have ak:=a9.tk
    obtain ⟨wb,b9,b0⟩:=mo b (by simp) hb
    have b1:=b9.pr
    have b2:=b9.len
    have bk:=b9.tk
    rw [aD,aD,aK] at hw
    have lnm:=lG h
    have lmk:=lG hx
    exact ⟨_,wQ [[(3,aKb)],[(1,nm)],[(3,[40])],[(1,mk)],[(3,[58])],wa,[(3,[41])],[(3,[61])],wb] (by simp <;> rfl) (List.forall_mem_cons.2 ⟨bD (aGc (by decide)),List.forall_mem_cons.2 ⟨bD (aA5 h),List.forall_mem_cons.2 ⟨bD (sK (by decide)),List.forall_mem_cons.2 ⟨bD (aA5 hx),List.forall_mem_cons.2 ⟨bD (sK (by decide)),List.forall_mem_cons.2 ⟨ak,List.forall_mem_cons.2 ⟨bD (sK (by decide)),List.forall_mem_cons.2 ⟨bD (sK (by decide)),List.forall_mem_cons.2 ⟨bk,fun _ h=>nomatch h⟩⟩⟩⟩⟩⟩⟩⟩⟩) (by simp) (Ev.eq (bGS (by omega) (by omega) a1 (by omega) b1 (by omega)) (by simp only [List.map_cons,List.map_nil,eE] <;> rfl)) (by simp only [List.map_cons,List.map_nil,eE,lw,List.length_cons,List.length_nil,aJ,aD,aK]; omega),bGD h hx a0 b0,⟨_,_,rfl,(by decide)⟩⟩
   | opn s h =>
    have lnm:=aIo h
    exact ⟨_,wQ [[(3,aAZ)],[(1,nm)]] (by simp <;> rfl) (List.forall_mem_cons.2 ⟨bD (aGc (by decide)),List.forall_mem_cons.2 ⟨bD (aC0 (aC6 h)),fun _ h=>nomatch h⟩⟩) (by simp) (Ev.eq (bGT (by omega)) (by simp only [List.map_cons,List.map_nil,eE] <;> rfl)) (by simp only [List.map_cons,List.map_nil,eE,lw,List.length_cons,List.length_nil,aJ,aK]; omega),bGI h,⟨_,_,rfl,(by cases top <;> decide)⟩⟩
   | inc s h =>
    have lnm:=aIo h
    exact ⟨_,wQ [[(3,aAD)],[(1,nm)]] (by simp <;> rfl) (List.forall_mem_cons.2 ⟨bD (aGc (by decide)),List.forall_mem_cons.2 ⟨bD (aC0 (aC6 h)),fun _ h=>nomatch h⟩⟩) (by simp) (Ev.eq (bIq (by omega)) (by simp only [List.map_cons,List.map_nil,eE] <;> rfl)) (by simp only [List.map_cons,List.map_nil,eE,lw,List.length_cons,List.length_nil,aJ,aK]; omega),bH8 h,⟨_,_,rfl,(by cases top <;> decide)⟩⟩
end Go.Proofs.YtjhfgiieicloeaaGreatDoor

/- A program's text, written and read again. -/
namespace Go.Proofs.YtjhfgiieicloeaaGreatDoor
open Go Go.Am Go.Sx
end Go.Proofs.YtjhfgiieicloeaaGreatDoor

