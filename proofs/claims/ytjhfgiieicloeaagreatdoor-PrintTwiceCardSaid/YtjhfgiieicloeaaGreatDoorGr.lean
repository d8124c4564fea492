/- Joined texts: P1, P2, P3. -/
import Derived.Test.YtjhfgiieicloeaaGreatDoorGv
import Derived.Test.YtjhfgiieicloeaaGreatDoorGm
import Derived.Test.YtjhfgiieicloeaaGreatDoorGk
import Derived.Test.YtjhfgiieicloeaaGreatDoorGu
import Derived.Test.YtjhfgiieicloeaaGreatDoorGl
import Derived.Test.YtjhfgiieicloeaaGreatDoorGo
/- Modules, signatures, specifications, declarations as words, and the parser on them. Printed by gen9/p1.py. -/
namespace Go.Proofs.YtjhfgiieicloeaaGreatDoor
open Go Go.Am Go.Sx
structure Zg (R:List Wd):Prop where
 m:kW R [42]=false
 a:kW R [45,62]=false
 w:kW R aDD=false
 p:kW R [40]=false
structure Z (R:List Wd):Prop where
 g:Zg R
 c:kW R [58]=false
 cs:kW R [58,62]=false
 b:kW R [124]=false
 e:kW R [61]=false
 st:St R
theorem bHW:Z []:=⟨⟨rfl,rfl,rfl,rfl⟩,rfl,rfl,rfl,rfl,bGt⟩
theorem aVm {s:List UInt8} (R:List Wd) (h:s∉[[42],[45,62],aDD,[40]]):Zg ((3,s) :: R):=by
 simp only [List.mem_cons,not_or,List.not_mem_nil] at h
 obtain ⟨h1,h2,h3,h4,_⟩:=h
 refine ⟨?_,?_,?_,?_⟩ <;> rw [jE]
 ·exact decide_eq_false h1
 ·exact decide_eq_false h2
 ·exact decide_eq_false h3
 ·exact decide_eq_false h4
def aZy:List (List UInt8):=[vC,eT,kY,xA,vQ,yP,yI,aHH,aHn,aDK,[41]]
theorem bBB {s:List UInt8} (R:List Wd) (h:s∈aZy):Z ((3,s) :: R):=by
 have n1:∀ u∈aZy,u∉[[42],[45,62],aDD,[40],[58],[58,62],[124],[61]]:=by decide
 have n2:∀ u∈aZy,u∉[[116,114,117,101],[102,97,108,115,101],[40],[35,49],[35,50],[42],[43],[45],[61],[60]]:=by decide
 have h1:=n1 s h
 simp only [List.mem_cons,not_or,List.not_mem_nil] at h1
 obtain ⟨a1,a2,a3,a4,a5,a6,a7,a8,_⟩:=h1
 refine ⟨aVm R (by simp only [List.mem_cons,not_or,List.not_mem_nil]; exact ⟨a1,a2,a3,a4,fun e=>e⟩),?_,?_,?_,?_,aDA R (n2 s h)⟩ <;> rw [jE]
 ·exact decide_eq_false a5
 ·exact decide_eq_false a6
 ·exact decide_eq_false a7
 ·exact decide_eq_false a8
def Gp (t:Tr) (w:List Wd):Prop:=∀ (l:List aF) (i n:Nat) (R:List Wd),Nk l→At l i (w++R)→kW R [42]=false→kW R [45,62]=false→4 * w.length+2≤n→∃ m,n≤m+w.length+1∧lQ l n i=aCd l m t (i+w.length)
def Mp (t:Tr) (w:List Wd):Prop:=∀ (l:List aF) (i n:Nat) (R:List Wd),Nk l→At l i (w++R)→Zg R→4 * w.length+2≤n→∃ m,n≤m+w.length+1∧rD l n i=aBa l m t (i+w.length)
def Sq (t:Tr) (w:List Wd):Prop:=∀ (l:List aF) (i n:Nat) (R:List Wd),Nk l→At l i (w++R)→Z R→4 * w.length+1≤n→wH l n i=(t,i+w.length,0)
def Dq (top:Bool) (t:Tr) (w:List Wd):Prop:=∀ (l:List aF) (i n:Nat) (R:List Wd),Nk l→At l i (w++R)→Z R→4 * w.length+1≤n→uP l n top i=(t,i+w.length,0)
theorem aHw {α:Type} {a:α} {i j:Nat} {e:Int} (h:i=j):(a,i,e)=(a,j,e):=by rw [h]
theorem aVV {α:Type} {d:α} {l:List aF} {s:List UInt8} {f:Nat→α×Nat×Int} {i:Nat} {R:List Wd} (h:At l i ((3,s) :: R)):bhd d l s f i=f (i+1):=by
 unfold bhd
 rw [ks1 h,ks0,aS]
theorem lg1 {l:List aF} {i:Nat} {s:List UInt8} {R:List Wd} (h:At l i ((1,s) :: R)) (hc:lgS s=true):lgR l i=(s,i+1,0):=by
 have e:gW ((1,s) :: R)=(s,true):=if_pos (c:=(1:Int)=1∧lgS s=true) ⟨rfl,hc⟩
 unfold lgR
 rw [h.long,e]
 rfl
theorem ex1 {l:List aF} {i:Nat} {t:Tr} {w R:List Wd} (hp:A0 t w) (hn:Nk l) (h:At l i (w++R)) (hs:St R):exR l i=(t,i+w.length,0):=by
 have:=h.len
 exact hp l i _ R hn h hs (by omega)
theorem cn1 {l:List aF} {i:Nat} {c:List Tr} {w R:List Wd} (hp:aLW c w) (hd:(c.map nameOf).Nodup) (h:At l i (w++R)) (hz:Z R):cnR l i=(c,i+w.length,0):=by
 have:=h.len
 have:=aZS hp l i (3 * l.length+3) R [] h hz.g.m hz.g.a hz.b (fun k _=>by simp) hd (by omega)
 unfold cnR
 rw [this,List.nil_append]
theorem Gp.fin {t:Tr} {w:List Wd} (h:Gp t w) {l:List aF} {i n:Nat} {R:List Wd} (hn:Nk l) (ha:At l i (w++R)) (hm:kW R [42]=false) (hq:kW R [45,62]=false) (hw:kW R aDD=false) (hf:4 * w.length+2≤n):lQ l n i=(t,i+w.length,0):=by
 obtain ⟨m,h1,h2⟩:=h l i n R hn ha hm hq hf
 obtain ⟨m,rfl⟩:∃ q,m=q+1:=⟨m - 1,by omega⟩
 rw [h2,aCd,ha.app.key,hw,if_neg (by simp)]
theorem Mp.fin {t:Tr} {w:List Wd} (h:Mp t w) {l:List aF} {i n:Nat} {R:List Wd} (hn:Nk l) (ha:At l i (w++R)) (hg:Zg R) (hc:kW R [58]=false) (hs:kW R [58,62]=false) (hf:4 * w.length+2≤n):rD l n i=(t,i+w.length,0):=by
 obtain ⟨m,h1,h2⟩:=h l i n R hn ha hg hf
 obtain ⟨m,rfl⟩:∃ q,m=q+1:=⟨m - 1,by omega⟩
 rw [h2,aBa,ha.app.key,hc,if_neg (by simp),ha.app.key,hs,if_neg (by simp)]
theorem aVE {l:List aF} {i:Nat} {s:List UInt8} {R:List Wd} {t:List (List UInt8)} (h:At l i ((3,s) :: R)) (hs:s∈t):aAI l i t=true:=by
 unfold aAI
 refine List.any_eq_true.2 ⟨s,hs,?_⟩
 rw [h.key,jE,decide_eq_true rfl]
theorem aVG {l:List aF} {i:Nat} {R:List Wd} {t:List (List UInt8)} (h:At l i R) (hs:∀ s∈t,kW R s=false):aAI l i t=false:=by
 unfold aAI
 refine List.any_eq_false.2 fun s hm=>?_
 rw [h.key,hs s hm]; simp
abbrev TW:=Tr×List Wd
def flW (L:List TW):List Wd:=(L.map Prod.snd).flatten
theorem aDe (a:TW) (L:List TW):flW (a :: L)=a.2++flW L:=rfl
abbrev aSD:List (List UInt8):=[vC,eT,kY,xA,vQ,yP]
abbrev aIf (top:Bool):List (List UInt8):=if top=true then [vC,eT,kY,xA,yI,vQ,aHH,aHn] else [vC,eT,kY,xA,yI,vQ]
def Hd (t:List (List UInt8)) (w:List Wd):Prop:=∃ s r,w=(3,s) :: r∧s∈t
theorem bDc {t:List (List UInt8)} (ht:∀ s∈t,s∈aZy) {L:List TW} (hL:∀ a∈L,Hd t a.2) {R:List Wd} (hz:Z R):Z (flW L++R):=by
 cases L with
 | nil=>exact hz
 | cons a L =>
  obtain ⟨s,r,e,hs⟩:=hL a List.mem_cons_self
  rw [aDe,e]
  exact bBB _ (ht s hs)
theorem bBj:∀ (L:List TW),(∀ a∈L,Sq a.1 a.2∧Hd aSD a.2)→∀ (l:List aF) (i n:Nat) (R:List Wd) (out:List Tr),Nk l→At l i (flW L++R)→Z R→(∀ s∈aSD,kW R s=false)→4 * (flW L).length+2≤n→vA l n out i=(out++L.map Prod.fst,i+(flW L).length,0)
 | [],_,l,i,n,R,out,_,ha,_,hR,hf=>by
  obtain ⟨n,rfl⟩:∃ q,n=q+1:=⟨n - 1,by omega⟩
  have ha:At l i R:=ha
  rw [vA,aVG ha hR,if_neg (by simp)]
  simp [flW]
 | a :: L,h,l,i,n,R,out,hn,ha,hz,hR,hf=>by
  obtain ⟨n,rfl⟩:∃ q,n=q+1:=⟨n - 1,by omega⟩
  obtain ⟨h1,s,r,e,hs⟩:=h a List.mem_cons_self
  rw [aDe,List.append_assoc] at ha
  rw [aDe,List.length_append] at hf
  have hl:1≤a.2.length:=by rw [e]; simp
  have hk:=ha
  rw [e,List.cons_append] at hk
  have zr:=bDc (t:=aSD) (by decide) (L:=L) (fun x hx=>(h x (List.mem_cons_of_mem _ hx)).2) hz
  rw [vA,aVE hk hs,if_pos rfl,h1 l i n _ hn ha zr (by omega),aS]
  rw [bBj L (fun x hx=>h x (List.mem_cons_of_mem _ hx)) l _ n R _ hn ha.app hz hR (by omega)]
  rw [aDe,List.length_append,List.append_assoc,List.map_cons]
  exact aHw (by omega)
theorem aYa {top:Bool}:∀ (L:List TW),(∀ a∈L,Dq top a.1 a.2∧Hd (aIf top) a.2)→∀ (l:List aF) (i n:Nat) (R:List Wd) (out:List Tr),Nk l→At l i (flW L++R)→Z R→(∀ s∈aIf top,kW R s=false)→4 * (flW L).length+2≤n→qE l n top out i=(out++L.map Prod.fst,i+(flW L).length,0)
 | [],_,l,i,n,R,out,_,ha,_,hR,hf=>by
  obtain ⟨n,rfl⟩:∃ q,n=q+1:=⟨n - 1,by omega⟩
  have ha:At l i R:=ha
  have e:(aAI l i [vC,eT,kY,xA,yI,vQ] || (top && aAI l i [aHH,aHn]))=false:=by
   cases top with
   | false=>rw [aVG (t:=[vC,eT,kY,xA,yI,vQ]) ha (fun s hs=>hR s hs)]; rfl
   | true =>
    have d1:∀ s∈[vC,eT,kY,xA,yI,vQ],s∈aIf true:=by decide
    have d2:∀ s∈[aHH,aHn],s∈aIf true:=by decide
    rw [aVG ha (fun s hs=>hR s (d1 s hs)),aVG ha (fun s hs=>hR s (d2 s hs))]
    rfl
  rw [qE,e,if_neg (by simp)]
  simp [flW]
 | a :: L,h,l,i,n,R,out,hn,ha,hz,hR,hf=>by
  obtain ⟨n,rfl⟩:∃ q,n=q+1:=⟨n - 1,by omega⟩
  obtain ⟨h1,s,r,e,hs⟩:=h a List.mem_cons_self
  rw [aDe,List.append_assoc] at ha
  rw [aDe,List.length_append] at hf
  have hl:1≤a.2.length:=by rw [e]; simp
  have hk:=ha
  rw [e,List.cons_append] at hk
  have zr:=bDc (t:=aIf top) (by cases top <;> decide) (L:=L) (fun x hx=>(h x (List.mem_cons_of_mem _ hx)).2) hz
  have e2:(aAI l i [vC,eT,kY,xA,yI,vQ] || (top && aAI l i [aHH,aHn]))=true:=by
   cases top with
   | false=>rw [aVE hk (show s∈[vC,eT,kY,xA,yI,vQ] from hs)]; rfl
   | true =>
    have d:∀ s∈aIf true,s∈[vC,eT,kY,xA,yI,vQ]∨s∈[aHH,aHn]:=by decide
    rcases d s hs with h | h
    ·rw [aVE hk h]; rfl
    ·rw [aVE (t:=[aHH,aHn]) hk h]; simp
  rw [qE,e2,if_pos rfl,h1 l i n _ hn ha zr (by omega),aS]
  rw [aYa L (fun x hx=>h x (List.mem_cons_of_mem _ hx)) l _ n R _ hn ha.app hz hR (by omega)]
  rw [aDe,List.length_append,List.append_assoc,List.map_cons]
  exact aHw (by omega)
section
variable {s x:List UInt8} {a b:Tr} {wa wb:List Wd}
theorem bGf (hs:fH s=true) (ha':Pa0 a wa):Sq (.node 60 0 s [] [a]) ((3,vC) :: (1,s) :: (3,[58]) :: wa):=fun l i n R hn ha hz hf=>by
 simp only [List.length_cons] at hf
 simp only [List.cons_append] at ha
 obtain ⟨n,rfl⟩:∃ q,n=q+1:=⟨n - 1,by omega⟩
 rw [wH]
 rw [ha.key,jE,decide_eq_true rfl,if_pos rfl]
 have h1:=ha.next
 rw [nm1 h1 hs,aS]
 have h2:=h1.next
 rw [aVV h2]
 have h3:=h2.next
 rw [ty1 ha' h3 hz.g.m hz.g.a,aS]
 exact aHw (by simp only [List.length_cons] <;> omega)
theorem bGF (hs:fH s=true) (ha':Pa0 a wa):Sq (.node 61 0 s [] [a]) ((3,eT) :: (1,s) :: (3,[61]) :: wa):=fun l i n R hn ha hz hf=>by
 simp only [List.length_cons] at hf
 simp only [List.cons_append] at ha
 obtain ⟨n,rfl⟩:∃ q,n=q+1:=⟨n - 1,by omega⟩
 rw [wH]
 rw [ha.key,jE,if_neg (by decide)]
 rw [ha.key,jE,decide_eq_true rfl,if_pos rfl]
 have h1:=ha.next
 rw [nm1 h1 hs,aS]
 have h2:=h1.next
 rw [h2.key,jE,decide_eq_true rfl,if_pos rfl]
 have h3:=h2.next
 rw [ty1 ha' h3 hz.g.m hz.g.a,aS]
 exact aHw (by simp only [List.length_cons] <;> omega)
theorem bHC (hs:fH s=true):Sq (.node 61 0 s [] []) ([(3,eT),(1,s)]):=fun l i n R hn ha hz hf=>by
 simp only [List.length_cons,List.length_nil] at hf
 simp only [List.cons_append,List.nil_append] at ha
 obtain ⟨n,rfl⟩:∃ q,n=q+1:=⟨n - 1,by omega⟩
 rw [wH]
 rw [ha.key,jE,if_neg (by decide)]
 rw [ha.key,jE,decide_eq_true rfl,if_pos rfl]
 have h1:=ha.next
 rw [nm1 h1 hs,aS]
 have h2:=h1.next
 rw [h2.key,hz.e,if_neg (by simp)]
 exact aHw (by simp only [List.length_cons,List.length_nil] <;> omega)
theorem bHy (hs:fH s=true) {ks:List Tr} (hc:aLW ks wa) (hd:(ks.map nameOf).Nodup):Sq (.node 62 0 s [] ks) ((3,kY) :: (1,s) :: (3,[61]) :: wa):=fun l i n R hn ha hz hf=>by
 simp only [List.length_cons] at hf
 simp only [List.cons_append] at ha
 obtain ⟨n,rfl⟩:∃ q,n=q+1:=⟨n - 1,by omega⟩
 rw [wH]
 rw [ha.key,jE,if_neg (by decide)]
 rw [ha.key,jE,if_neg (by decide)]
 rw [ha.key,jE,decide_eq_true rfl,if_pos rfl]
 have h1:=ha.next
 rw [nm1 h1 hs,aS]
 have h2:=h1.next
 rw [ks1 h2,ks0,aS]
 have h3:=h2.next
 rw [cn1 hc hd h3 hz,aS]
 exact aHw (by simp only [List.length_cons] <;> omega)
theorem bGI (hs:fH s=true) (ha':Gp a wa):Sq (.node 63 0 s [] [a]) ((3,xA) :: (1,s) :: (3,[58]) :: wa):=fun l i n R hn ha hz hf=>by
 simp only [List.length_cons] at hf
 simp only [List.cons_append] at ha
 obtain ⟨n,rfl⟩:∃ q,n=q+1:=⟨n - 1,by omega⟩
 rw [wH]
 rw [ha.key,jE,if_neg (by decide)]
 rw [ha.key,jE,if_neg (by decide)]
 rw [ha.key,jE,if_neg (by decide)]
 rw [ha.key,jE,decide_eq_true rfl,if_pos rfl]
 have h1:=ha.next
 rw [nm1 h1 hs,aS]
 have h2:=h1.next
 rw [aVV h2]
 have h3:=h2.next
 rw [Gp.fin ha' hn h3 hz.g.m hz.g.a hz.g.w (by omega),aS]
 exact aHw (by simp only [List.length_cons] <;> omega)
theorem bHn (ha':Gp a wa):Sq (.node 64 0 [] [] [a]) ((3,vQ) :: wa):=fun l i n R hn ha hz hf=>by
 simp only [List.length_cons] at hf
 simp only [List.cons_append] at ha
 obtain ⟨n,rfl⟩:∃ q,n=q+1:=⟨n - 1,by omega⟩
 rw [wH]
 rw [ha.key,jE,if_neg (by decide)]
 rw [ha.key,jE,if_neg (by decide)]
 rw [ha.key,jE,if_neg (by decide)]
 rw [ha.key,jE,if_neg (by decide)]
 rw [ha.key,jE,decide_eq_true rfl,if_pos rfl]
 have h1:=ha.next
 rw [Gp.fin ha' hn h1 hz.g.m hz.g.a hz.g.w (by omega),aS]
 exact aHw (by simp only [List.length_cons] <;> omega)
theorem bFS (hs:lgS s=true) (hx:lgS x=true):Sq (.node 65 0 s x []) ([(3,yP),(3,eT),(1,s),(3,[61]),(1,x)]):=fun l i n R hn ha hz hf=>by
 simp only [List.length_cons,List.length_nil] at hf
 simp only [List.cons_append,List.nil_append] at ha
 obtain ⟨n,rfl⟩:∃ q,n=q+1:=⟨n - 1,by omega⟩
 rw [wH]
 rw [ha.key,jE,if_neg (by decide)]
 rw [ha.key,jE,if_neg (by decide)]
 rw [ha.key,jE,if_neg (by decide)]
 rw [ha.key,jE,if_neg (by decide)]
 rw [ha.key,jE,if_neg (by decide)]
 rw [ha.key,jE,decide_eq_true rfl,if_pos rfl]
 have h1:=ha.next
 rw [ks1 h1,ks0,aS]
 have h2:=h1.next
 rw [lg1 h2 hs,aS]
 have h3:=h2.next
 rw [ks1 h3,ks0,aS]
 have h4:=h3.next
 rw [lg1 h4 hx,aS]
 exact aHw (by simp only [List.length_cons,List.length_nil] <;> omega)
theorem bGZ {top:Bool} (hs:fH s=true) (ha':A0 a wa):Dq top (.node 70 0 s [] [a]) ((3,vC) :: (1,s) :: (3,[61]) :: wa):=fun l i n R hn ha hz hf=>by
 simp only [List.length_cons] at hf
 simp only [List.cons_append] at ha
 obtain ⟨n,rfl⟩:∃ q,n=q+1:=⟨n - 1,by omega⟩
 rw [uP]
 rw [ha.key,jE,decide_eq_true rfl,if_pos rfl]
 have h1:=ha.next
 rw [nm1 h1 hs,aS]
 have h2:=h1.next
 rw [h2.key,jE,if_neg (by decide)]
 rw [aVV h2]
 have h3:=h2.next
 rw [ex1 ha' hn h3 hz.st,aS]
 exact aHw (by simp only [List.length_cons] <;> omega)
theorem bHP {top:Bool} (hs:fH s=true) (ha':Pa0 a wa) (hb:A0 b wb):Dq top (.node 70 0 s [] [a,b]) ((3,vC) :: (1,s) :: (3,[58]) :: (wa++(3,[61]) :: wb)):=fun l i n R hn ha hz hf=>by
 simp only [List.length_cons,List.length_append] at hf
 simp only [List.cons_append,List.append_assoc] at ha
 obtain ⟨n,rfl⟩:∃ q,n=q+1:=⟨n - 1,by omega⟩
 rw [uP]
 rw [ha.key,jE,decide_eq_true rfl,if_pos rfl]
 have h1:=ha.next
 rw [nm1 h1 hs,aS]
 have h2:=h1.next
 rw [h2.key,jE,decide_eq_true rfl,if_pos rfl]
 have h3:=h2.next
 rw [ty1 ha' h3 (by rw [jE]; decide) (by rw [jE]; decide),aS]
 have h4:=h3.app
 rw [aVV h4]
 have h5:=h4.next
 rw [ex1 hb hn h5 hz.st,aS]
 exact aHw (by simp only [List.length_cons,List.length_append] <;> omega)
theorem bIS {top:Bool} (hs:fH s=true) (ha':Pa0 a wa):Dq top (.node 71 0 s [] [a]) ((3,eT) :: (1,s) :: (3,[61]) :: wa):=fun l i n R hn ha hz hf=>by
 simp only [List.length_cons] at hf
 simp only [List.cons_append] at ha
 obtain ⟨n,rfl⟩:∃ q,n=q+1:=⟨n - 1,by omega⟩
 rw [uP]
 rw [ha.key,jE,if_neg (by decide)]
 rw [ha.key,jE,decide_eq_true rfl,if_pos rfl]
 have h1:=ha.next
 rw [nm1 h1 hs,aS]
 have h2:=h1.next
 rw [aVV h2]
 have h3:=h2.next
 rw [ty1 ha' h3 hz.g.m hz.g.a,aS]
 exact aHw (by simp only [List.length_cons] <;> omega)
theorem bHu {top:Bool} (hs:fH s=true) {ks:List Tr} (hc:aLW ks wa) (hd:(ks.map nameOf).Nodup):Dq top (.node 72 0 s [] ks) ((3,kY) :: (1,s) :: (3,[61]) :: wa):=fun l i n R hn ha hz hf=>by
 simp only [List.length_cons] at hf
 simp only [List.cons_append] at ha
 obtain ⟨n,rfl⟩:∃ q,n=q+1:=⟨n - 1,by omega⟩
 rw [uP]
 rw [ha.key,jE,if_neg (by decide)]
 rw [ha.key,jE,if_neg (by decide)]
 rw [ha.key,jE,decide_eq_true rfl,if_pos rfl]
 have h1:=ha.next
 rw [nm1 h1 hs,aS]
 have h2:=h1.next
 rw [ks1 h2,ks0,aS]
 have h3:=h2.next
 rw [cn1 hc hd h3 hz,aS]
 exact aHw (by simp only [List.length_cons] <;> omega)
theorem bF1 {top:Bool} (hs:fH s=true) (ha':Mp a wa):Dq top (.node 73 0 s [] [a]) ((3,xA) :: (1,s) :: (3,[61]) :: wa):=fun l i n R hn ha hz hf=>by
 simp only [List.length_cons] at hf
 simp only [List.cons_append] at ha
 obtain ⟨n,rfl⟩:∃ q,n=q+1:=⟨n - 1,by omega⟩
 rw [uP]
 rw [ha.key,jE,if_neg (by decide)]
 rw [ha.key,jE,if_neg (by decide)]
 rw [ha.key,jE,if_neg (by decide)]
 rw [ha.key,jE,decide_eq_true rfl,if_pos rfl]
 have h1:=ha.next
 rw [nm1 h1 hs,aS]
 have h2:=h1.next
 rw [aVV h2]
 have h3:=h2.next
 rw [Mp.fin ha' hn h3 hz.g hz.c hz.cs (by omega),aS]
 exact aHw (by simp only [List.length_cons] <;> omega)
theorem bF4 {top:Bool} (hs:lgS s=true):Dq top (.node 76 0 s [] []) ([(3,yI),(1,s)]):=fun l i n R hn ha hz hf=>by
 simp only [List.length_cons,List.length_nil] at hf
 simp only [List.cons_append,List.nil_append] at ha
 obtain ⟨n,rfl⟩:∃ q,n=q+1:=⟨n - 1,by omega⟩
 rw [uP]
 rw [ha.key,jE,if_neg (by decide)]
 rw [ha.key,jE,if_neg (by decide)]
 rw [ha.key,jE,if_neg (by decide)]
 rw [ha.key,jE,if_neg (by decide)]
 rw [ha.key,jE,decide_eq_true rfl,if_pos rfl]
 have h1:=ha.next
 rw [lg1 h1 hs,aS]
 exact aHw (by simp only [List.length_cons,List.length_nil] <;> omega)
theorem bFQ {top:Bool} (hs:lgS s=true):Dq top (.node 77 0 s [] []) ([(3,vQ),(1,s)]):=fun l i n R hn ha hz hf=>by
 simp only [List.length_cons,List.length_nil] at hf
 simp only [List.cons_append,List.nil_append] at ha
 obtain ⟨n,rfl⟩:∃ q,n=q+1:=⟨n - 1,by omega⟩
 rw [uP]
 rw [ha.key,jE,if_neg (by decide)]
 rw [ha.key,jE,if_neg (by decide)]
 rw [ha.key,jE,if_neg (by decide)]
 rw [ha.key,jE,if_neg (by decide)]
 rw [ha.key,jE,if_neg (by decide)]
 rw [ha.key,jE,decide_eq_true rfl,if_pos rfl]
 have h1:=ha.next
 rw [lg1 h1 hs,aS]
 exact aHw (by simp only [List.length_cons,List.length_nil] <;> omega)
theorem bHb (hs:fH s=true) (ha':Gp a wa):Dq true (.node 74 0 s [] [a]) ((3,aHH) :: (1,s) :: (3,[61]) :: wa):=fun l i n R hn ha hz hf=>by
 simp only [List.length_cons] at hf
 simp only [List.cons_append] at ha
 obtain ⟨n,rfl⟩:∃ q,n=q+1:=⟨n - 1,by omega⟩
 rw [uP]
 rw [ha.key,jE,if_neg (by decide)]
 rw [ha.key,jE,if_neg (by decide)]
 rw [ha.key,jE,if_neg (by decide)]
 rw [ha.key,jE,if_neg (by decide)]
 rw [ha.key,jE,if_neg (by decide)]
 rw [ha.key,jE,if_neg (by decide)]
 rw [if_pos ⟨rfl,by rw [ha.key,jE,decide_eq_true rfl]⟩]
 have h1:=ha.next
 rw [nm1 h1 hs,aS]
 have h2:=h1.next
 rw [aVV h2]
 have h3:=h2.next
 rw [Gp.fin ha' hn h3 hz.g.m hz.g.a hz.g.w (by omega),aS]
 exact aHw (by simp only [List.length_cons] <;> omega)
theorem bFR (hs:fH s=true) (hx:fH x=true) (ha':Gp a wa) (hb:Mp b wb):Dq true (.node 75 0 s x [a,b]) ((3,aHn) :: (1,s) :: (3,[40]) :: (1,x) :: (3,[58]) :: (wa++(3,[41]) :: (3,[61]) :: wb)):=fun l i n R hn ha hz hf=>by
 simp only [List.length_cons,List.length_append] at hf
 simp only [List.cons_append,List.append_assoc] at ha
 obtain ⟨n,rfl⟩:∃ q,n=q+1:=⟨n - 1,by omega⟩
 rw [uP]
 rw [ha.key,jE,if_neg (by decide)]
 rw [ha.key,jE,if_neg (by decide)]
 rw [ha.key,jE,if_neg (by decide)]
 rw [ha.key,jE,if_neg (by decide)]
 rw [ha.key,jE,if_neg (by decide)]
 rw [ha.key,jE,if_neg (by decide)]
 rw [if_neg (fun h=>absurd h.2 (by rw [ha.key,jE]; decide))]
 rw [if_pos ⟨rfl,by rw [ha.key,jE,decide_eq_true rfl]⟩]
 have h1:=ha.next
 rw [nm1 h1 hs,aS]
 have h2:=h1.next
 rw [ks1 h2,ks0,aS]
 have h3:=h2.next
 rw [nm1 h3 hx,aS]
 have h4:=h3.next
 rw [aVV h4]
 have h5:=h4.next
 rw [Gp.fin ha' hn h5 (by rw [jE]; decide) (by rw [jE]; decide) (by rw [jE]; decide) (by omega),aS]
 have h6:=h5.app
 rw [ks1 h6,ks0,aS]
 have h7:=h6.next
 rw [aVV h7]
 have h8:=h7.next
 rw [Mp.fin hb hn h8 hz.g hz.c hz.cs (by omega),aS]
 exact aHw (by simp only [List.length_cons,List.length_append] <;> omega)
theorem bGA (hs:fH s=true):Gp (.node 51 0 s [] []) [(1,s)]:=fun l i n R _ ha _ _ hf=>by
 simp only [List.length_cons,List.length_nil] at hf
 simp only [List.cons_append,List.nil_append] at ha
 obtain ⟨n,rfl⟩:∃ q,n=q+2:=⟨n - 2,by omega⟩
 refine ⟨n+1,by simp,?_⟩
 rw [lQ,aBV,ha.key,kW1,if_neg (by simp),nm1 ha hs,aS,aS]
 rfl
theorem bGM {L:List TW} (hL:∀ a∈L,Sq a.1 a.2∧Hd aSD a.2):Gp (.node 50 0 [] [] (L.map Prod.fst)) ((3,kSg) :: (flW L++[(3,aDK)])):=fun l i n R hn ha _ _ hf=>by
 simp only [List.length_cons,List.length_append,List.length_nil] at hf
 simp only [List.cons_append,List.append_assoc,List.nil_append] at ha
 obtain ⟨n,rfl⟩:∃ q,n=q+2:=⟨n - 2,by omega⟩
 refine ⟨n+1,by simp,?_⟩
 rw [lQ,aBV,ha.key,jE,decide_eq_true rfl,if_pos rfl]
 have h1:=ha.next
 have hz:Z ((3,aDK) :: R):=bBB R (by decide)
 rw [bBj L hL l _ n _ [] hn h1 hz (fun u hu=>by rw [jE]; exact decide_eq_false (by revert u; decide)) (by omega),aS,ks1 h1.app,ks0,aS,aS]
 simp only [List.nil_append]
 congr 1
 simp only [List.length_cons,List.length_append,List.length_nil]; omega
theorem bGJ (ha':Gp a wa) (hs:lgS s=true) (hb:Pa0 b wb):Gp (.node 52 0 s [] [a,b]) (wa++(3,aDD) :: (3,eT) :: (1,s) :: (3,[61]) :: wb):=fun l i n R hn ha hm hq hf=>by
 simp only [List.length_cons,List.length_append] at hf
 simp only [List.cons_append,List.append_assoc] at ha
 obtain ⟨m,h1,h2⟩:=ha' l i n _ hn ha (by rw [jE]; decide) (by rw [jE]; decide) (by omega)
 obtain ⟨m,rfl⟩:∃ q,m=q+1:=⟨m - 1,by omega⟩
 have g0:=ha.app
 have g1:=g0.next
 have g2:=g1.next
 have g3:=g2.next
 have g4:=g3.next
 refine ⟨m,by simp only [List.length_cons,List.length_append]; omega,?_⟩
 rw [h2,aCd,g0.key,jE,decide_eq_true rfl,if_pos rfl,ks1 g1,ks0,aS,lg1 g2 hs,aS,ks1 g3,ks0,aS,ty1 hb g4 hm hq,aS]
 congr 1
 simp only [List.length_cons,List.length_append]; omega
theorem aVS {t:Tr} {w:List Wd} (h:∀ (l:List aF) (i n:Nat) (R:List Wd),Nk l→At l i (w++R)→Zg R→4 * w.length+1≤n→zV l n i=(t,i+w.length,0)):Mp t w:=fun l i n R hn ha hz hf=>by
 obtain ⟨n,rfl⟩:∃ q,n=q+1:=⟨n - 1,by omega⟩
 exact ⟨n,by omega,by rw [rD,h l i n R hn ha hz (by omega),aS]⟩
theorem bEx (hs:lgS s=true):Mp (.node 41 0 s [] []) [(1,s)]:=aVS fun l i n R _ ha hz hf=>by
 simp only [List.length_cons,List.length_nil] at hf
 simp only [List.cons_append,List.nil_append] at ha
 obtain ⟨n,rfl⟩:∃ q,n=q+1:=⟨n - 1,by omega⟩
 rw [zV,ha.key,kW1,if_neg (by simp),ha.key,kW1,if_neg (by simp),if_neg (fun h=>absurd h.2 (by rw [ha.next.key,hz.p]; simp)),lg1 ha hs,aS]
 rfl
theorem bG0 (hs:fH s=true) (ha':Mp a wa):Mp (.node 42 0 s [] [a]) ((1,s) :: (3,[40]) :: (wa++[(3,[41])])):=aVS fun l i n R hn ha _ hf=>by
 simp only [List.length_cons,List.length_append,List.length_nil] at hf
 simp only [List.cons_append,List.append_assoc,List.nil_append] at ha
 obtain ⟨n,rfl⟩:∃ q,n=q+1:=⟨n - 1,by omega⟩
 have h1:=ha.next
 have h2:=h1.next
 have e:nW ((1,s) :: (3,[40]) :: (wa++(3,[41]) :: R))=(s,true):=if_pos (c:=(1:Int)=1∧fH s=true) ⟨rfl,hs⟩
 rw [zV,ha.key,kW1,if_neg (by simp),ha.key,kW1,if_neg (by simp),if_pos ⟨by rw [ha.name,e],by rw [h1.key,jE,decide_eq_true rfl]⟩,ha.name,e]
 rw [Mp.fin ha' hn h2 (aVm _ (by decide)) (by rw [jE]; decide) (by rw [jE]; decide) (by omega),aS,ks1 h2.app,ks0,aS]
 exact aHw (by simp only [List.length_cons,List.length_append,List.length_nil] <;> omega)
theorem bD8 {L:List TW} (hL:∀ a∈L,Dq false a.1 a.2∧Hd (aIf false) a.2):Mp (.node 40 0 [] [] (L.map Prod.fst)) ((3,aIs) :: (flW L++[(3,aDK)])):=aVS fun l i n R hn ha _ hf=>by
 simp only [List.length_cons,List.length_append,List.length_nil] at hf
 simp only [List.cons_append,List.append_assoc,List.nil_append] at ha
 obtain ⟨n,rfl⟩:∃ q,n=q+1:=⟨n - 1,by omega⟩
 rw [zV,ha.key,jE,decide_eq_true rfl,if_pos rfl]
 have h1:=ha.next
 have hz:Z ((3,aDK) :: R):=bBB R (by decide)
 rw [aYa L hL l _ n _ [] hn h1 hz (fun u hu=>by rw [jE]; exact decide_eq_false (by revert u; decide)) (by omega),aS,ks1 h1.app,ks0,aS]
 simp only [List.nil_append]
 exact aHw (by simp only [List.length_cons,List.length_append,List.length_nil] <;> omega)
theorem bIU {n:Int} (hn':n=0∨n=1) (ha':Mp a wa) (hb:Gp b wb):Mp (.node 43 n [] [] [a,b]) (wa++(3,if n=1 then [58,62] else [58]) :: wb):=fun l i k R hn ha hz hf=>by
 simp only [List.length_cons,List.length_append] at hf
 simp only [List.cons_append,List.append_assoc] at ha
 rcases hn' with rfl | rfl
 ·rw [if_neg (by decide)] at ha ⊢
  obtain ⟨m,h1,h2⟩:=ha' l i k _ hn ha (aVm _ (by decide)) (by omega)
  obtain ⟨m,rfl⟩:∃ q,m=q+1:=⟨m - 1,by omega⟩
  have g0:=ha.app
  refine ⟨m,by simp only [List.length_cons,List.length_append]; omega,?_⟩
  rw [h2,aBa,g0.key,jE,decide_eq_true rfl,if_pos rfl,Gp.fin hb hn g0.next hz.m hz.a hz.w (by omega),aS]
  congr 1
  simp only [List.length_cons,List.length_append]; omega
 ·rw [if_pos rfl] at ha ⊢
  obtain ⟨m,h1,h2⟩:=ha' l i k _ hn ha (aVm _ (by decide)) (by omega)
  obtain ⟨m,rfl⟩:∃ q,m=q+1:=⟨m - 1,by omega⟩
  have g0:=ha.app
  refine ⟨m,by simp only [List.length_cons,List.length_append]; omega,?_⟩
  rw [h2,aBa,g0.key,jE,if_neg (by decide),g0.key,jE,decide_eq_true rfl,if_pos rfl,Gp.fin hb hn g0.next hz.m hz.a hz.w (by omega),aS]
  congr 1
  simp only [List.length_cons,List.length_append]; omega
end
end Go.Proofs.YtjhfgiieicloeaaGreatDoor

/- Every module, signature, specification, declaration of a form has words: they are written, and parsed. Printed by gen9/p2.py. -/
namespace Go.Proofs.YtjhfgiieicloeaaGreatDoor
open Go Go.Am Go.Sx
theorem eP (x:Wd):jn [x]=x.2:=by simp [jn,jt]
theorem bB7 {w:List Wd} (h:w≠[]) (ht:∀ x∈w,Tk x):jn w≠[]:=by
 cases w with
 | nil=>exact absurd rfl h
 | cons x r =>
  intro e
  have h1:=(ht x List.mem_cons_self).1
  rw [aEh] at e
  exact h1 (List.append_eq_nil_iff.1 e).1
theorem aZY:∀ Ls:List (List Wd),(∀ v∈Ls,∀ x∈v,Tk x)→jt Ls.flatten=Lib.joinTail [32] ((Ls.map jn).filter ne)
 | [],_=>rfl
 | w :: Ls,h=>by
  have ih:=aZY Ls fun v hv=>h v (List.mem_cons_of_mem _ hv)
  rw [List.flatten_cons,aAJ,List.map_cons,ih]
  by_cases hw:w=[]
  ·subst hw; rfl
  ·rw [aPw (bB7 hw (h w List.mem_cons_self)),aEJ,sE hw]; simp
theorem aRq:∀ Ls:List (List Wd),(∀ v∈Ls,∀ x∈v,Tk x)→jn Ls.flatten=jf (Ls.map jn)
 | [],_=>rfl
 | w :: Ls,h=>by
  have hr:∀ v∈Ls,∀ x∈v,Tk x:=fun v hv=>h v (List.mem_cons_of_mem _ hv)
  rw [List.flatten_cons,List.map_cons]
  by_cases hw:w=[]
  ·subst hw
   rw [List.nil_append,aRq Ls hr]; rfl
  ·rw [aJG hw,aZY Ls hr,bDB (bB7 hw (h w List.mem_cons_self))]
theorem Ev.eq {α:Type} {f:Nat→Option α} {a b:α} (h:Ev f a) (e:a=b):Ev f b:=e ▸ h
structure Wq (f:Nat→Tr→Option (List UInt8)) (t:Tr) (w:List Wd):Prop where
 ne:w≠[]
 tk:∀ x∈w,Tk x
 pr:Ev (fun K=>f K t) (jn w)
 len:(jn w).length+1≤400 * t.w
theorem vS {f:Nat→Tr→Option (List UInt8)} {t:Tr} {w:List Wd} (Ls:List (List Wd)) (e:Ls.flatten=w) (hk:∀ v∈Ls,∀ x∈v,Tk x) (hne:w≠[]) (pr:Ev (fun K=>f K t) (jf (Ls.map jn))) (len:lw (Ls.map jn)+1≤400 * t.w):Wq f t w:=by
 subst e
 have h:=aRq Ls hk
 have h2:=aUY (Ls.map jn)
 refine ⟨hne,fun x hx=>?_,by rw [h]; exact pr,by rw [h]; omega⟩
 obtain ⟨v,hv,hx⟩:=List.mem_flatten.1 hx
 exact hk v hv x hx
def aON:List (List UInt8):=[vC,eT,kY,xA,vQ,yP,yI,aHH,aHn,aIs,kSg,aDK,aDD]
theorem aF2 {s:List UInt8} (h:s∈aON):Tk (3,s):=by
 have h1:∀ u∈aON,u∈aNI:=by decide
 have h2:∀ u∈aON,u≠[]:=by decide
 have h3:∀ u∈aON,∀ b∈u,97≤b.toNat∧b.toNat<123:=by decide
 have h4:∀ u∈aON,u.length≤100:=by decide
 exact aNo (h1 s h) (h2 s h) (h3 s h) (h4 s h)
theorem bJi:Tk (3,[58,62]):=aVw (b:=58) (w:=[62]) (by decide) (by decide) (by decide) fun tail ht=>by
 rcases ht with rfl | ⟨t,rfl⟩
 ·exact ⟨rfl,rfl⟩
 ·exact ⟨rfl,rfl⟩
theorem bIX {y:Tr} (h:Sm y) (hi:isT 1 y=true):∃ w,Bk y w∧Ev (fun K=>jP K y) (jn w):=by
 obtain ⟨hg,hw,hs,hd⟩:=h
 obtain ⟨w,b⟩:=(bCq y hw).1 hi
 have hf:aVz y:=⟨by omega,fun _=>hg⟩
 have h0:chk 1 y=0:=by rw [aKV (aKZ y hg) hs hd,if_pos hi]
 have v0:=b.wr 0
 rw [aZD,bAX] at v0
 have e:Ev (fun K=>aAQ K y) (jn w,0):=Ev.congr (f:=fun K=>_) (Ev.bind (aZu hf) (Ev.nF h0 (Ev.bind v0 (Ev.pure' rfl)))) (fun _=>rfl)
 exact ⟨w,b,Ev.congr (f:=fun K=>_) (Ev.bind e Ev.pure) (fun k=>by rw [jP])⟩
theorem bJm {y:Tr} (h:Sm y) (hi:isT 2 y=true):∃ w,Bx y w∧Ev (fun K=>tZ K y) (jn w)∧(jn w).length+8≤200 * y.w:=by
 obtain ⟨hg,hw,hs,hd⟩:=h
 obtain ⟨l1,l2⟩:=(bGg y).1 hi
 obtain ⟨w,b⟩:=(bHM y hg hw hs hd (by omega)).1 hi
 have hf:aVz y:=⟨by omega,fun _=>hg⟩
 have h0:chk 2 y=0:=by rw [aKV (aKZ y hg) hs hd,if_pos hi]
 have e:Ev (fun K=>aGp K y) (jn w,0):=Ev.congr (f:=fun K=>_) (Ev.bind (bEf hf) (Ev.nF h0 (Ev.bind b.pw.zero (Ev.pure' rfl)))) (fun _=>rfl)
 have:=b.len
 exact ⟨w,b,Ev.congr (f:=fun K=>_) (Ev.bind e Ev.pure) (fun k=>by rw [tZ]),by omega⟩
theorem aVR {f:Nat→Tr→Option (List UInt8)} {p:Tr→List Wd→Prop}:∀ r:List Tr,(∀ y∈r,∃ w,Wq f y w∧p y w)→∃ L:List TW,r=L.map Prod.fst∧∀ a∈L,Wq f a.1 a.2∧p a.1 a.2
 | [],_=>⟨[],rfl,fun a h=>by cases h⟩
 | y :: r,h=>by
  obtain ⟨L,rfl,hL⟩:=aVR r fun z hz=>h z (List.mem_cons_of_mem _ hz)
  obtain ⟨v,hv⟩:=h y List.mem_cons_self
  refine ⟨(y,v) :: L,rfl,fun a ha=>?_⟩
  rcases List.mem_cons.1 ha with rfl | ha
  ·exact hv
  ·exact hL a ha
def toX (a:TW):TX:=(a.1,jn a.2)
theorem aVB (L:List TW):(L.map toX).map Prod.fst=L.map Prod.fst:=by rw [List.map_map]; rfl
theorem aN5 (L:List TW):(L.map toX).map Prod.snd=(L.map Prod.snd).map jn:=by rw [List.map_map,List.map_map]; rfl
theorem aN0 {f:Nat→Tr→Option (List UInt8)}:∀ L:List TW,(∀ a∈L,Wq f a.1 a.2)→lw ((L.map Prod.snd).map jn)≤400 * wL (L.map Prod.fst)
 | [],_=>by simp [lw]
 | a :: L,h=>by
  have h1:=(h a List.mem_cons_self).len
  have h2:=aN0 L fun x hx=>h x (List.mem_cons_of_mem _ hx)
  simp only [List.map_cons,lw,aC]
  omega
theorem aV3 {f:Nat→Tr→Option (List UInt8)} {L:List TW} (h:∀ a∈L,Wq f a.1 a.2):∀ v∈L.map Prod.snd,∀ x∈v,Tk x:=fun v hv=>by
 obtain ⟨a,ha,rfl⟩:=List.mem_map.1 hv
 exact (h a ha).tk
theorem bCG:∀ (l:List Tr),(∀ y∈l,isT 8 y=true)→(∀ y∈l,Sm y)→∃ L:List CW,l=L.map cTr∧∀ a∈L,CB a∧Ev (fun K=>jP K a.2.1) (jn a.2.2)∧Sm a.2.1
 | [],_,_=>⟨[],rfl,fun a h=>by cases h⟩
 | x :: l,h,hs=>by
  obtain ⟨L,rfl,hL⟩:=bCG l (fun z hz=>h z (List.mem_cons_of_mem _ hz)) fun z hz=>hs z (List.mem_cons_of_mem _ hz)
  obtain ⟨c,t,rfl,hc,ht⟩:=bHG (h x List.mem_cons_self)
  have st:=(hs _ List.mem_cons_self).kid (y:=t) (by simp)
  obtain ⟨v,hb,hv⟩:=bIX st ht
  refine ⟨(c,t,v) :: L,rfl,fun a ha=>?_⟩
  rcases List.mem_cons.1 ha with rfl | ha
  ·exact ⟨⟨hc,hb⟩,hv,st⟩
  ·exact hL a ha
def toN (a:CW):CN:=(a.1,a.2.1,jn a.2.2)
theorem bFE {s:List UInt8} (h:fH s=true):s≠[]:=by rintro rfl; exact absurd h (by decide +kernel)
theorem bGp {a:CW} (h:CB a):cnX (toN a)=cT a:=by
 have h2:jn a.2.2≠[]:=bB7 h.2.ne (fun x hx=>(h.2.gd x hx).tk)
 show jf [a.1,[111,102],jn a.2.2]=a.1++[32,111,102,32]++jn a.2.2
 rw [bDB (bFE h.1),aPw (by simp),aPw h2,aEJ,aEJ]
 simp [Lib.joinTail]
theorem bFa {n:Int} {nm mk:List UInt8} {ks:List Tr} (hs:∀ y∈ks,Sm y) (hw:wL ks≤1048576) (h:fH nm=true) (hk:jV (isT 8) [] ks=true) (h0:ks≠[]) :
  ∃ w,aLW ks w∧(ks.map nameOf).Nodup∧Wq eO (.node 62 n nm mk ks) ((3,kY) :: (1,nm) :: (3,[61]) :: w)∧Wq cE (.node 72 n nm mk ks) ((3,kY) :: (1,nm) :: (3,[61]) :: w):=by
 obtain ⟨hall,hnd⟩:=aHY ks [] hk
 obtain ⟨L,rfl,hL⟩:=bCG ks (fun y hy=>(hall y hy).1) hs
 have hB:∀ x∈L,CB x:=fun x hx=>(hL x hx).1
 have hn:=eJ h
 have hl:=aCR (L.map cTr)
 rw [List.length_map] at hl
 cases L with
 | nil=>exact absurd rfl h0
 | cons c r =>
  have hlen:=bBA c r hB
  have hjj:=aZW c r hB
  have e1:((c :: r).map toN).map cnT=(c :: r).map cTr:=by rw [List.map_map]; rfl
  have e2:aTF ((c :: r).map toN)=jn (csW (c :: r)):=by
   unfold aTF
   rw [List.map_map,hjj]
   congr 1
   exact List.map_congr_left fun a ha=>bGp (hB a ha)
  have ok:∀ a∈(c :: r).map toN,bEL a:=fun a ha=>by
   obtain ⟨b,hb,rfl⟩:=List.mem_map.1 ha
   obtain ⟨⟨q1,q2⟩,q3,q4⟩:=hL b hb
   have:=eJ q1
   have:=q2.len
   have:=q4.w
   exact ⟨show b.1.length≤1000 by omega,show (jn b.2.2).length≤109951162777 by omega,q3⟩
  have l2:((c :: r).map toN).length≤1048576:=by rw [List.length_map]; omega
  have l3:(aTF ((c :: r).map toN)).length≤109951162777:=by rw [e2]; omega
  have p1:=bHr (n:=n) (nm:=nm) (mk:=mk) (by omega) ok l2 l3
  have p2:=bHQ (n:=n) (nm:=nm) (mk:=mk) (by omega) ok l2 l3
  rw [e1,e2] at p1 p2
  have hk2:∀ v∈[[(3,kY)],[(1,nm)],[(3,[61])],csW (c :: r)],∀ x∈v,Tk x:=List.forall_mem_cons.2 ⟨bG (aF2 (by decide)),List.forall_mem_cons.2 ⟨bG (aA1 h),List.forall_mem_cons.2 ⟨bG (sJ (by decide)),List.forall_mem_cons.2 ⟨fun x hx=>(bBp _ hB x hx).tk,fun _ h=>nomatch h⟩⟩⟩⟩
  have len:lw (([[(3,kY)],[(1,nm)],[(3,[61])],csW (c :: r)]:List (List Wd)).map jn)+1≤400 * (1+wL ((c :: r).map cTr)):=by
   simp only [List.map_cons,List.map_nil,eP,lw,List.length_cons,List.length_nil] at hlen ⊢
   omega
  refine ⟨csW (c :: r),aSh c r hB,hnd,vS [[(3,kY)],[(1,nm)],[(3,[61])],csW (c :: r)] (by simp) hk2 (by simp) (Ev.eq p1 (by simp only [List.map_cons,List.map_nil,eP])) (by rw [aH]; exact len),vS [[(3,kY)],[(1,nm)],[(3,[61])],csW (c :: r)] (by simp) hk2 (by simp) (Ev.eq p2 (by simp only [List.map_cons,List.map_nil,eP])) (by rw [aH]; exact len)⟩
abbrev BM (t:Tr):Prop:=∃ w,Wq iL t w∧Mp t w
abbrev BG (t:Tr):Prop:=∃ w,Wq fU t w∧Gp t w
abbrev BS (t:Tr):Prop:=∃ w,Wq eO t w∧Sq t w∧Hd aSD w
abbrev BD (top:Bool) (t:Tr):Prop:=∃ w,Wq cE t w∧Dq top t w∧Hd (aIf top) w
theorem bHj:∀ t:Tr,Sm t→(isT 3 t=true→BM t)∧(isT 4 t=true→BG t)∧(isT 5 t=true→BS t)∧(∀ top,isT 6 t=true→(top=false→kindOf t≠74∧kindOf t≠75)→BD top t):=Tr.ind
 (fun h=>by cases h.g)
 fun k n nm mk ks ih hs=>by
  have hw:=hs.w
  rw [aH] at hw
  have sub:∀ y∈ks,Sm y:=fun y hy=>hs.kid hy
  have ty:∀ y∈ks,isT 1 y=true→∃ w,Bk y w∧Ev (fun K=>jP K y) (jn w):=fun y hy=>bIX (sub y hy)
  have ex:∀ y∈ks,isT 2 y=true→∃ w,Bx y w∧Ev (fun K=>tZ K y) (jn w)∧(jn w).length+8≤200 * y.w:=fun y hy=>bJm (sub y hy)
  have mo:∀ y∈ks,isT 3 y=true→BM y:=fun y hy=>(ih y hy (sub y hy)).1
  have si:∀ y∈ks,isT 4 y=true→BG y:=fun y hy=>(ih y hy (sub y hy)).2.1
  have sp:∀ y∈ks,isT 5 y=true→BS y:=fun y hy=>(ih y hy (sub y hy)).2.2.1
  have de:∀ y∈ks,isT 6 y=true∧kindOf y≠74∧kindOf y≠75→BD false y:=fun y hy h=>(ih y hy (sub y hy)).2.2.2 false h.1 fun _=>h.2
  clear ih hs
  refine ⟨fun hi=>?_,fun hi=>?_,fun hi=>?_,fun top hi ht=>?_⟩
  ·cases bIA hi with
   | strc ks hk =>
    obtain ⟨L,rfl,hL⟩:=aVR ks (fun y hy=>de y hy (hk y hy))
    have hq:=fun a ha=>(hL a ha).1
    have hl:=aN0 L hq
    have hj:=aUY ((L.map Prod.snd).map jn)
    have hf:=aRq (L.map Prod.snd) (aV3 hq)
    have p:=bEA (n:=0) (nm:=[]) (mk:=[]) (L:=L.map toX) (fun a ha=>by
     obtain ⟨b,hb,rfl⟩:=List.mem_map.1 ha
     exact (hq b hb).pr) (by rw [aN5]; omega)
    rw [aVB,aN5,← hf] at p
    refine ⟨_,vS [[(3,aIs)],flW L,[(3,aDK)]] (by simp <;> rfl) (List.forall_mem_cons.2 ⟨bG (aF2 (by decide)),List.forall_mem_cons.2 ⟨fun x hx=>?_,List.forall_mem_cons.2 ⟨bG (aF2 (by decide)),fun _ h=>nomatch h⟩⟩⟩) (by simp) (Ev.eq p (by simp only [List.map_cons,List.map_nil,eP] <;> rfl)) ?_,bD8 fun a ha=>(hL a ha).2⟩
    ·obtain ⟨v,hv,hx⟩:=List.mem_flatten.1 hx
     exact aV3 hq v hv x hx
    ·rw [← hf] at hj
     simp only [List.map_cons,List.map_nil,eP,lw,List.length_cons,List.length_nil,aH]
     show 6+1+((jn (L.map Prod.snd).flatten).length+1+_)+1≤_
     omega
   | path s h =>
    have ls:=yU h
    exact ⟨_,vS [[(1,nm)]] rfl (List.forall_mem_cons.2 ⟨bG (aC8 (aDo h)),fun _ h=>nomatch h⟩) (by simp) (Ev.eq bD5 (by
     have h0:nm≠[]:=by rintro rfl; exact absurd h (by decide +kernel)
     simp only [List.map_cons,List.map_nil,eP]
     rw [bDB h0]; simp [Lib.joinTail])) (by simp only [List.map_cons,List.map_nil,eP,lw,aH,aI]; omega),bEx h⟩
   | app s a h ha =>
    obtain ⟨wa,a9,a0⟩:=mo a (by simp) ha
    have a1:=a9.pr
    have a2:=a9.len
    have ak:=a9.tk
    rw [aC,aI] at hw
    have lnm:=eJ h
    exact ⟨_,vS [[(1,nm)],[(3,[40])],wa,[(3,[41])]] (by simp <;> rfl) (List.forall_mem_cons.2 ⟨bG (aA1 h),List.forall_mem_cons.2 ⟨bG (sJ (by decide)),List.forall_mem_cons.2 ⟨ak,List.forall_mem_cons.2 ⟨bG (sJ (by decide)),fun _ h=>nomatch h⟩⟩⟩⟩) (by simp) (Ev.eq (bGi (by omega) a1 (by omega)) (by simp only [List.map_cons,List.map_nil,eP] <;> rfl)) (by simp only [List.map_cons,List.map_nil,eP,lw,List.length_cons,List.length_nil,aH,aC,aI]; omega),bG0 h a0⟩
   | sl n a b hn ha hb =>
    obtain ⟨wa,a9,a0⟩:=mo a (by simp) ha
    have a1:=a9.pr
    have a2:=a9.len
    obtain ⟨wb,b9,b0⟩:=si b (by simp) hb
    have b1:=b9.pr
    have b2:=b9.len
    rw [aC,aC,aI] at hw
    have tg:∀ n:Int,Tk (3,if n=1 then [58,62] else [58]):=fun n=>by
     split
     ·exact bJi
     ·exact sJ (by decide)
    have lg:(if n=1 then ([58,62]:List UInt8) else [58]).length≤2:=by split <;> decide
    exact ⟨_,vS [wa,[(3,if n=1 then [58,62] else [58])],wb] (by simp <;> rfl) (List.forall_mem_cons.2 ⟨a9.tk,List.forall_mem_cons.2 ⟨bG (tg n),List.forall_mem_cons.2 ⟨b9.tk,fun _ h=>nomatch h⟩⟩⟩) (by simp) (Ev.eq (bIl a1 (by omega) b1 (by omega)) (by simp only [List.map_cons,List.map_nil,eP] <;> rfl)) (by simp only [List.map_cons,List.map_nil,eP,lw,aH,aC,aI]; omega),bIU hn a0 b0⟩
  ·cases bH5 hi with
   | bod ks hk =>
    obtain ⟨L,rfl,hL⟩:=aVR ks (fun y hy=>sp y hy (hk y hy))
    have hq:=fun a ha=>(hL a ha).1
    have hl:=aN0 L hq
    have hj:=aUY ((L.map Prod.snd).map jn)
    have hf:=aRq (L.map Prod.snd) (aV3 hq)
    have p:=bG6 (n:=0) (nm:=[]) (mk:=[]) (L:=L.map toX) (fun a ha=>by
     obtain ⟨b,hb,rfl⟩:=List.mem_map.1 ha
     exact (hq b hb).pr) (by rw [aN5]; omega)
    rw [aVB,aN5,← hf] at p
    refine ⟨_,vS [[(3,kSg)],flW L,[(3,aDK)]] (by simp <;> rfl) (List.forall_mem_cons.2 ⟨bG (aF2 (by decide)),List.forall_mem_cons.2 ⟨fun x hx=>?_,List.forall_mem_cons.2 ⟨bG (aF2 (by decide)),fun _ h=>nomatch h⟩⟩⟩) (by simp) (Ev.eq p (by simp only [List.map_cons,List.map_nil,eP] <;> rfl)) ?_,bGM fun a ha=>(hL a ha).2⟩
    ·obtain ⟨v,hv,hx⟩:=List.mem_flatten.1 hx
     exact aV3 hq v hv x hx
    ·rw [← hf] at hj
     simp only [List.map_cons,List.map_nil,eP,lw,List.length_cons,List.length_nil,aH]
     show 3+1+((jn (L.map Prod.snd).flatten).length+1+_)+1≤_
     omega
   | nam s h =>
    have ls:=eJ h
    exact ⟨_,vS [[(1,nm)]] rfl (List.forall_mem_cons.2 ⟨bG (aA1 h),fun _ h=>nomatch h⟩) (by simp) (Ev.eq bHN (by
     simp only [List.map_cons,List.map_nil,eP]
     rw [bDB (bFE h)]; simp [Lib.joinTail])) (by simp only [List.map_cons,List.map_nil,eP,lw,aH,aI]; omega),bGA h⟩
   | whr s a b h ha hb =>
    obtain ⟨wa,a9,a0⟩:=si a (by simp) ha
    have a1:=a9.pr
    have a2:=a9.len
    have ak:=a9.tk
    obtain ⟨wb,b0,b1⟩:=ty b (by simp) hb
    have b2:=b0.len
    have bk:∀ x∈wb,Tk x:=fun x hx=>(b0.gd x hx).tk
    rw [aC,aC,aI] at hw
    have lnm:=yU h
    have e2:(jn [(3,aDD),(3,eT)]).length≤12:=by decide
    exact ⟨_,vS [wa,[(3,aDD),(3,eT)],[(1,nm)],[(3,[61])],wb] (by simp <;> rfl) (List.forall_mem_cons.2 ⟨ak,List.forall_mem_cons.2 ⟨mem_cons (aF2 (by decide)) (bG (aF2 (by decide))),List.forall_mem_cons.2 ⟨bG (aC8 (aDo h)),List.forall_mem_cons.2 ⟨bG (sJ (by decide)),List.forall_mem_cons.2 ⟨bk,fun _ h=>nomatch h⟩⟩⟩⟩⟩) (by intro e; exact a9.ne (List.append_eq_nil_iff.1 e).1) (Ev.eq (bGU (by omega) a1 (by omega) b1 (by omega)) (by simp only [List.map_cons,List.map_nil,eP] <;> rfl)) (by simp only [List.map_cons,List.map_nil,eP,lw,List.length_cons,List.length_nil,aH,aC,aI]; omega),bGJ a0 h b0.p0⟩
  ·cases bIM hi with
   | val s a h ha =>
    obtain ⟨wa,a0,a1⟩:=ty a (by simp) ha
    have a2:=a0.len
    have ak:∀ x∈wa,Tk x:=fun x hx=>(a0.gd x hx).tk
    rw [aC,aI] at hw
    have lnm:=eJ h
    exact ⟨_,vS [[(3,vC)],[(1,nm)],[(3,[58])],wa] (by simp <;> rfl) (List.forall_mem_cons.2 ⟨bG (aF2 (by decide)),List.forall_mem_cons.2 ⟨bG (aA1 h),List.forall_mem_cons.2 ⟨bG (sJ (by decide)),List.forall_mem_cons.2 ⟨ak,fun _ h=>nomatch h⟩⟩⟩⟩) (by simp) (Ev.eq (bGw (by omega) a1 (by omega)) (by simp only [List.map_cons,List.map_nil,eP] <;> rfl)) (by simp only [List.map_cons,List.map_nil,eP,lw,List.length_cons,List.length_nil,aH,aC,aI]; omega),bGf h a0.p0,⟨_,_,rfl,(by decide)⟩⟩
   | ty1 s a h ha =>
    obtain ⟨wa,a0,a1⟩:=ty a (by simp) ha
    have a2:=a0.len
    have ak:∀ x∈wa,Tk x:=fun x hx=>(a0.gd x hx).tk
    rw [aC,aI] at hw
    have lnm:=eJ h
    exact ⟨_,vS [[(3,eT)],[(1,nm)],[(3,[61])],wa] (by simp <;> rfl) (List.forall_mem_cons.2 ⟨bG (aF2 (by decide)),List.forall_mem_cons.2 ⟨bG (aA1 h),List.forall_mem_cons.2 ⟨bG (sJ (by decide)),List.forall_mem_cons.2 ⟨ak,fun _ h=>nomatch h⟩⟩⟩⟩) (by simp) (Ev.eq (bFU (by omega) a1 (by omega)) (by simp only [List.map_cons,List.map_nil,eP] <;> rfl)) (by simp only [List.map_cons,List.map_nil,eP,lw,List.length_cons,List.length_nil,aH,aC,aI]; omega),bGF h a0.p0,⟨_,_,rfl,(by decide)⟩⟩
   | ty0 s h =>
    have lnm:=eJ h
    exact ⟨_,vS [[(3,eT)],[(1,nm)]] (by simp <;> rfl) (List.forall_mem_cons.2 ⟨bG (aF2 (by decide)),List.forall_mem_cons.2 ⟨bG (aA1 h),fun _ h=>nomatch h⟩⟩) (by simp) (Ev.eq (bHm (by omega)) (by simp only [List.map_cons,List.map_nil,eP] <;> rfl)) (by simp only [List.map_cons,List.map_nil,eP,lw,List.length_cons,List.length_nil,aH,aI]; omega),bHC h,⟨_,_,rfl,(by decide)⟩⟩
   | dat s ks h hk h0 =>
    obtain ⟨w,h1,h2,h3,_⟩:=bFa (n:=0) (mk:=[]) sub (by omega) h hk h0
    exact ⟨_,h3,bHy h h1 h2,⟨_,_,rfl,by decide⟩⟩
   | str s a h ha =>
    obtain ⟨wa,a9,a0⟩:=si a (by simp) ha
    have a1:=a9.pr
    have a2:=a9.len
    have ak:=a9.tk
    rw [aC,aI] at hw
    have lnm:=eJ h
    exact ⟨_,vS [[(3,xA)],[(1,nm)],[(3,[58])],wa] (by simp <;> rfl) (List.forall_mem_cons.2 ⟨bG (aF2 (by decide)),List.forall_mem_cons.2 ⟨bG (aA1 h),List.forall_mem_cons.2 ⟨bG (sJ (by decide)),List.forall_mem_cons.2 ⟨ak,fun _ h=>nomatch h⟩⟩⟩⟩) (by simp) (Ev.eq (bHh (by omega) a1 (by omega)) (by simp only [List.map_cons,List.map_nil,eP] <;> rfl)) (by simp only [List.map_cons,List.map_nil,eP,lw,List.length_cons,List.length_nil,aH,aC,aI]; omega),bGI h a0,⟨_,_,rfl,(by decide)⟩⟩
   | inc a ha =>
    obtain ⟨wa,a9,a0⟩:=si a (by simp) ha
    have a1:=a9.pr
    have a2:=a9.len
    have ak:=a9.tk
    rw [aC,aI] at hw
    exact ⟨_,vS [[(3,vQ)],wa] (by simp <;> rfl) (List.forall_mem_cons.2 ⟨bG (aF2 (by decide)),List.forall_mem_cons.2 ⟨ak,fun _ h=>nomatch h⟩⟩) (by simp) (Ev.eq (bHq a1 (by omega)) (by simp only [List.map_cons,List.map_nil,eP] <;> rfl)) (by simp only [List.map_cons,List.map_nil,eP,lw,List.length_cons,List.length_nil,aH,aC,aI]; omega),bHn a0,⟨_,_,rfl,(by decide)⟩⟩
   | shr s x h hx =>
    have lnm:=yU h
    have lmk:=yU hx
    have e2:(jn [(3,yP),(3,eT)]).length≤12:=by decide
    exact ⟨_,vS [[(3,yP),(3,eT)],[(1,nm)],[(3,[61])],[(1,mk)]] (by simp <;> rfl) (List.forall_mem_cons.2 ⟨mem_cons (aF2 (by decide)) (bG (aF2 (by decide))),List.forall_mem_cons.2 ⟨bG (aC8 (aDo h)),List.forall_mem_cons.2 ⟨bG (sJ (by decide)),List.forall_mem_cons.2 ⟨bG (aC8 (aDo hx)),fun _ h=>nomatch h⟩⟩⟩⟩) (by simp) (Ev.eq (bGR (by omega) (by omega)) (by simp only [List.map_cons,List.map_nil,eP] <;> rfl)) (by simp only [List.map_cons,List.map_nil,eP,lw,List.length_cons,List.length_nil,aH,aI]; omega),bFS h hx,⟨_,_,rfl,(by decide)⟩⟩
  ·cases bIj hi with
   | va1 s a h ha =>
    obtain ⟨wa,a0,a1,a2⟩:=ex a (by simp) ha
    have ak:=a0.tk
    rw [aC,aI] at hw
    have lnm:=eJ h
    exact ⟨_,vS [[(3,vC)],[(1,nm)],[(3,[61])],wa] (by simp <;> rfl) (List.forall_mem_cons.2 ⟨bG (aF2 (by decide)),List.forall_mem_cons.2 ⟨bG (aA1 h),List.forall_mem_cons.2 ⟨bG (sJ (by decide)),List.forall_mem_cons.2 ⟨ak,fun _ h=>nomatch h⟩⟩⟩⟩) (by simp) (Ev.eq (bHO (by omega) a1 (by omega)) (by simp only [List.map_cons,List.map_nil,eP] <;> rfl)) (by simp only [List.map_cons,List.map_nil,eP,lw,List.length_cons,List.length_nil,aH,aC,aI]; omega),bGZ h a0.a0,⟨_,_,rfl,(by cases top <;> decide)⟩⟩
   | va2 s a b h ha hb =>
    obtain ⟨wa,a0,a1⟩:=ty a (by simp) ha
    have a2:=a0.len
    have ak:∀ x∈wa,Tk x:=fun x hx=>(a0.gd x hx).tk
    obtain ⟨wb,b0,b1,b2⟩:=ex b (by simp) hb
    have bk:=b0.tk
    rw [aC,aC,aI] at hw
    have lnm:=eJ h
    exact ⟨_,vS [[(3,vC)],[(1,nm)],[(3,[58])],wa,[(3,[61])],wb] (by simp <;> rfl) (List.forall_mem_cons.2 ⟨bG (aF2 (by decide)),List.forall_mem_cons.2 ⟨bG (aA1 h),List.forall_mem_cons.2 ⟨bG (sJ (by decide)),List.forall_mem_cons.2 ⟨ak,List.forall_mem_cons.2 ⟨bG (sJ (by decide)),List.forall_mem_cons.2 ⟨bk,fun _ h=>nomatch h⟩⟩⟩⟩⟩⟩) (by simp) (Ev.eq (bGC (by omega) a1 (by omega) b1 (by omega)) (by simp only [List.map_cons,List.map_nil,eP] <;> rfl)) (by simp only [List.map_cons,List.map_nil,eP,lw,List.length_cons,List.length_nil,aH,aC,aI]; omega),bHP h a0.p0 b0.a0,⟨_,_,rfl,(by cases top <;> decide)⟩⟩
   | ty s a h ha =>
    obtain ⟨wa,a0,a1⟩:=ty a (by simp) ha
    have a2:=a0.len
    have ak:∀ x∈wa,Tk x:=fun x hx=>(a0.gd x hx).tk
    rw [aC,aI] at hw
    have lnm:=eJ h
    exact ⟨_,vS [[(3,eT)],[(1,nm)],[(3,[61])],wa] (by simp <;> rfl) (List.forall_mem_cons.2 ⟨bG (aF2 (by decide)),List.forall_mem_cons.2 ⟨bG (aA1 h),List.forall_mem_cons.2 ⟨bG (sJ (by decide)),List.forall_mem_cons.2 ⟨ak,fun _ h=>nomatch h⟩⟩⟩⟩) (by simp) (Ev.eq (bIZ (by omega) a1 (by omega)) (by simp only [List.map_cons,List.map_nil,eP] <;> rfl)) (by simp only [List.map_cons,List.map_nil,eP,lw,List.length_cons,List.length_nil,aH,aC,aI]; omega),bIS h a0.p0,⟨_,_,rfl,(by cases top <;> decide)⟩⟩
   | dat s ks h hk h0 =>
    obtain ⟨w,h1,h2,_,h3⟩:=bFa (n:=0) (mk:=[]) sub (by omega) h hk h0
    exact ⟨_,h3,bHu h h1 h2,⟨_,_,rfl,by cases top <;> decide⟩⟩
   | str s a h ha =>
    obtain ⟨wa,a9,a0⟩:=mo a (by simp) ha
    have a1:=a9.pr
    have a2:=a9.len
    have ak:=a9.tk
    rw [aC,aI] at hw
    have lnm:=eJ h
    exact ⟨_,vS [[(3,xA)],[(1,nm)],[(3,[61])],wa] (by simp <;> rfl) (List.forall_mem_cons.2 ⟨bG (aF2 (by decide)),List.forall_mem_cons.2 ⟨bG (aA1 h),List.forall_mem_cons.2 ⟨bG (sJ (by decide)),List.forall_mem_cons.2 ⟨ak,fun _ h=>nomatch h⟩⟩⟩⟩) (by simp) (Ev.eq (bHJ (by omega) a1 (by omega)) (by simp only [List.map_cons,List.map_nil,eP] <;> rfl)) (by simp only [List.map_cons,List.map_nil,eP,lw,List.length_cons,List.length_nil,aH,aC,aI]; omega),bF1 h a0,⟨_,_,rfl,(by cases top <;> decide)⟩⟩
   | sig s a h ha =>
    have et:top=true:=by
     cases top with
     | true=>rfl
     | false=>exact absurd rfl (ht rfl).1
    subst et
    obtain ⟨wa,a9,a0⟩:=si a (by simp) ha
    have a1:=a9.pr
    have a2:=a9.len
    have ak:=a9.tk
    rw [aC,aI] at hw
    have lnm:=eJ h
    exact ⟨_,vS [[(3,aHH)],[(1,nm)],[(3,[61])],wa] (by simp <;> rfl) (List.forall_mem_cons.2 ⟨bG (aF2 (by decide)),List.forall_mem_cons.2 ⟨bG (aA1 h),List.forall_mem_cons.2 ⟨bG (sJ (by decide)),List.forall_mem_cons.2 ⟨ak,fun _ h=>nomatch h⟩⟩⟩⟩) (by simp) (Ev.eq (bGN (by omega) a1 (by omega)) (by simp only [List.map_cons,List.map_nil,eP] <;> rfl)) (by simp only [List.map_cons,List.map_nil,eP,lw,List.length_cons,List.length_nil,aH,aC,aI]; omega),bHb h a0,⟨_,_,rfl,(by decide)⟩⟩
   | fun_ s x a b h hx ha hb =>
    have et:top=true:=by
     cases top with
     | true=>rfl
     | false=>exact absurd rfl (ht rfl).2
    subst et
    obtain ⟨wa,a9,a0⟩:=si a (by simp) ha
    have a1:=a9.pr
    have a2:=a9.len
    have ak:=a9.tk
    obtain ⟨wb,b9,b0⟩:=mo b (by simp) hb
    have b1:=b9.pr
    have b2:=b9.len
    have bk:=b9.tk
    rw [aC,aC,aI] at hw
    have lnm:=eJ h
    have lmk:=eJ hx
    exact ⟨_,vS [[(3,aHn)],[(1,nm)],[(3,[40])],[(1,mk)],[(3,[58])],wa,[(3,[41])],[(3,[61])],wb] (by simp <;> rfl) (List.forall_mem_cons.2 ⟨bG (aF2 (by decide)),List.forall_mem_cons.2 ⟨bG (aA1 h),List.forall_mem_cons.2 ⟨bG (sJ (by decide)),List.forall_mem_cons.2 ⟨bG (aA1 hx),List.forall_mem_cons.2 ⟨bG (sJ (by decide)),List.forall_mem_cons.2 ⟨ak,List.forall_mem_cons.2 ⟨bG (sJ (by decide)),List.forall_mem_cons.2 ⟨bG (sJ (by decide)),List.forall_mem_cons.2 ⟨bk,fun _ h=>nomatch h⟩⟩⟩⟩⟩⟩⟩⟩⟩) (by simp) (Ev.eq (bG9 (by omega) (by omega) a1 (by omega) b1 (by omega)) (by simp only [List.map_cons,List.map_nil,eP] <;> rfl)) (by simp only [List.map_cons,List.map_nil,eP,lw,List.length_cons,List.length_nil,aH,aC,aI]; omega),bFR h hx a0 b0,⟨_,_,rfl,(by decide)⟩⟩
   | opn s h =>
    have lnm:=yU h
    exact ⟨_,vS [[(3,yI)],[(1,nm)]] (by simp <;> rfl) (List.forall_mem_cons.2 ⟨bG (aF2 (by decide)),List.forall_mem_cons.2 ⟨bG (aC8 (aDo h)),fun _ h=>nomatch h⟩⟩) (by simp) (Ev.eq (bGV (by omega)) (by simp only [List.map_cons,List.map_nil,eP] <;> rfl)) (by simp only [List.map_cons,List.map_nil,eP,lw,List.length_cons,List.length_nil,aH,aI]; omega),bF4 h,⟨_,_,rfl,(by cases top <;> decide)⟩⟩
   | inc s h =>
    have lnm:=yU h
    exact ⟨_,vS [[(3,vQ)],[(1,nm)]] (by simp <;> rfl) (List.forall_mem_cons.2 ⟨bG (aF2 (by decide)),List.forall_mem_cons.2 ⟨bG (aC8 (aDo h)),fun _ h=>nomatch h⟩⟩) (by simp) (Ev.eq (bGn (by omega)) (by simp only [List.map_cons,List.map_nil,eP] <;> rfl)) (by simp only [List.map_cons,List.map_nil,eP,lw,List.length_cons,List.length_nil,aH,aI]; omega),bFQ h,⟨_,_,rfl,(by cases top <;> decide)⟩⟩
end Go.Proofs.YtjhfgiieicloeaaGreatDoor

/- A program's text, written and read again. -/
namespace Go.Proofs.YtjhfgiieicloeaaGreatDoor
open Go Go.Am Go.Sx
theorem bFm {w:List Wd} (h:∀ x∈w,Tk x):Rk (jn w):=by
 cases w with
 | nil=>exact .nil
 | cons x r=>exact aKS (h x List.mem_cons_self).2.1 (bCU fun y hy=>h y (List.mem_cons_of_mem _ hy))
theorem bIx {w:List Wd} (hne:w≠[]) (h:∀ x∈w,Tk x) (hl:(jn w).length≤16384):∃ l,lxS (jn w) 0 []=(l,0,0)∧l.map kt=w∧Nk l:=by
 obtain ⟨l,q1,q0,q2⟩:=bHz hne h hl
 rcases aM0 hl with ⟨_,a⟩ | ⟨a,_⟩
 ·exact ⟨l,Ev.unique a q2,q1,q0⟩
 ·exact absurd (bFm h) a
theorem aZh:∀ L:List TW,(∀ a∈L,a.2≠[]∧∀ x∈a.2,Tk x)→(prX (L.map toX)).length≤16384→Rk (prX (L.map toX))∧∃ l,lxS (prX (L.map toX)) 0 []=(l,0,0)∧l.map kt=flW L∧Nk l
 | [],_,_=>⟨.nil,[],aGo 0 [],rfl,fun k hk=>by cases hk⟩
 | a :: L,h,hl=>by
  obtain ⟨h1,h2⟩:=h a List.mem_cons_self
  rw [List.map_cons,aS6,List.length_append,List.length_cons] at hl
  have hl1:(jn a.2).length≤16384:=by
   have:(toX a).2=jn a.2:=rfl
   rw [this] at hl
   omega
  obtain ⟨i1,m,i2,i3,i4⟩:=aZh L (fun x hx=>h x (List.mem_cons_of_mem _ hx)) (by omega)
  obtain ⟨l,q1,q2,q3⟩:=bIx h1 h2 hl1
  rw [List.map_cons,aS6]
  refine ⟨bDL (bFm h2) i1,l++m.map (shT ((jn a.2).length+1)),bC0 q1 i2,?_,?_⟩
  ·rw [List.map_append,List.map_map,q2,aDe,← i3]
   rfl
  ·intro k hk
   rcases List.mem_append.1 hk with hk | hk
   ·exact q3 k hk
   ·obtain ⟨k',hk',rfl⟩:=List.mem_map.1 hk
    exact i4 k' hk'
theorem bF8 {t:Tr} (hf:aVz t) (h0:chk 7 t=0) (hw:t.w≤1048576):∃ s e,Ev (fun K=>aCn K t) (s,e)∧((s=[]∧e=3)∨(e=0∧s.length≤16384∧Ev (fun K=>kK K s) (t,0,0))):=by
 obtain ⟨hi,h1,h2,h3⟩:=bBy h0
 have hs:Sm t:=⟨hf.2 h1,hw,h2,h3⟩
 have cP:=bEr hf
 rw [h0] at cP
 obtain ⟨ks,rfl,hk⟩:=bDC hi
 obtain ⟨L,rfl,hL⟩:=aVR (f:=cE) (p:=fun t w=>Dq true t w∧Hd (aIf true) w) ks (fun y hy=>(bHj y (hs.kid hy)).2.2.2 true (hk y hy) (fun h=>by cases h))
 have hl:=aN0 L fun a ha=>(hL a ha).1
 have hn:=aCR (L.map Prod.fst)
 rw [List.length_map] at hn
 rw [aH] at hw
 have hx:(prX (L.map toX)).length=lw ((L.map Prod.snd).map jn):=by rw [bBJ,aN5]
 have pp:=bBl (L:=L.map toX) (fun a ha=>by
  obtain ⟨b,hb,rfl⟩:=List.mem_map.1 ha
  exact (hL b hb).1.pr) (by rw [List.length_map]; omega) (by omega)
 rw [aVB] at pp
 by_cases hb:16384<(prX (L.map toX)).length
 ·refine ⟨[],3,Ev.congr (f:=fun K=>_) ?_ (fun _=>rfl),.inl ⟨rfl,rfl⟩⟩
  exact Ev.bind cP (Ev.iteT rfl (Ev.bind pp (Ev.iteT hb Ev.pure)))
 ·refine ⟨prX (L.map toX),0,Ev.congr (f:=fun K=>_) ?_ (fun _=>rfl),.inr ⟨rfl,by omega,?_⟩⟩
  ·exact Ev.bind cP (Ev.iteT rfl (Ev.bind pp (Ev.iteF hb Ev.pure)))
  ·obtain ⟨r1,l,r2,r3,r4⟩:=aZh L (fun a ha=>⟨(hL a ha).1.ne,(hL a ha).1.tk⟩) (by omega)
   have hlen:(flW L).length=l.length:=by rw [← r3,List.length_map]
   have src:=bCn (n:=8 * l.length+2) (by omega) r1 r2 (Nat.le_refl _)
   have d:=aYa L (fun a ha=>(hL a ha).2) l 0 (8 * l.length+2) [] [] r4 (by unfold At; rw [List.drop_zero,r3,List.append_nil]) bHW (fun _ _=>rfl) (by omega)
   rw [d] at src
   refine Ev.eq src ?_
   unfold bBR
   simp only [List.nil_append,hlen,Nat.zero_add]
   rw [if_pos ⟨trivial,trivial⟩,if_neg (Nat.not_lt.2 h2),if_neg (Nat.not_lt.2 h3)]
end Go.Proofs.YtjhfgiieicloeaaGreatDoor

