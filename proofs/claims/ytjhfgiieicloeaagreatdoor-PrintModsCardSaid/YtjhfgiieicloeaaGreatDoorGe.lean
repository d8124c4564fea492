/- Joined texts: Am15, Am16, Sx13, Door, Door3. -/
import Derived.Test.YtjhfgiieicloeaaGreatDoorGb
import Derived.ChangeSame
import Derived.JoinedOf
import Derived.JoinedAt
import Derived.RowKit
import Derived.RowKit2
import Derived.ReadAgain
import Derived.ChangeAlike
import Derived.ChangeStays
import Derived.Handed
import Derived.LaidLaws
import Derived.LaidMore
import Derived.OpenShut
import Derived.FnData
import Derived.LaidHandle
import Derived.MakeChecks
import Derived.Stop.Joined
import Derived.Test.YtjhfgiieicloeaaGreatDoorGd
import Derived.Test.YtjhfgiieicloeaaGreatDoorRows
import Derived.Test.YtjhfgiieicloeaaGreatDoorGp
/- The abstract machine, part 15: what a handed argument is, read out of memory; what is behind a call, told as a statement of the rows asks it. -/
namespace Go.Am
open Go Go.ChangeShapes Go.WideShapes Go.RowKit

def mu0 (W:World):Mu:=fun b o=>match W.cell? ⟨b,o,none⟩ with | some v=>if v.oneCell' then some v else none | none=>none
def io0:Io:=fun _=>none

theorem aXR {W:World} {b o:Nat} {v:Value} (h:W.cell? ⟨b,o,none⟩=some v) (h1:v.oneCell'=true):mu0 W b o=some v:=by
 simp [mu0,h,h1]

theorem nX.start (W:World) (hT:∀ b o v,Tab b o=some v→W.cell? ⟨b,o,none⟩=some v∧v.oneCell'=true):nX W (mu0 W) io0 []:=by
 refine ⟨fun b o v h=>?_,fun p hp=>(by cases hp),List.Pairwise.nil,⟨0,fun _ _=>rfl⟩,fun b o v h=>aXR (hT b o v h).1 (hT b o v h).2⟩
 unfold mu0 at h
 split at h
 ·rename_i u hu
  split at h
  ·cases h; exact ⟨hu,by assumption⟩
  ·cases h
 ·cases h

def Reads (P:Program) (t:TypeId) {X:Type} (ok:X→Prop) (g:X→List AV):Prop :=
 ∀ ⦃H:Type⦄ (enc:TypeId×Value→H) (W:World) (fuel:Nat) (cs:List Value) (x:DataW H×List MemPlace),
  DataW.trod enc P W 0 (fun _=>true) true fuel t cs=some x→∃ a,ok a∧VL (mu0 W) io0 (g a) cs∧pY cs

section
variable {P:Program}

theorem aLn {v:Value} (h:v.oneCell'=true):pY [v]:=fun x hx=>by rw [List.mem_singleton.1 hx]; exact h

theorem aP1 {t:TypeId} {k:IntKind} (ht:P.underlying t=some (.int k)):Reads P t (X:=Int) (fun n=>(Lit.int k n).wf=true) (fun n=>[.lit (.int k n)]):=by
 intro H enc W fuel cs x h
 cases fuel with
 | zero=>simp [DataW.trod] at h
 | succ m =>
  unfold DataW.trod at h
  rw [ht] at h
  split at h
  all_goals first | (exfalso; simp_all; done) | skip
  ·rename_i k1 k2 n he
   cases he
   split at h
   ·rename_i hc
    obtain ⟨rfl,hw⟩:=hc
    exact ⟨n,hw,⟨_,_,rfl,rfl,rfl⟩,aLn rfl⟩
   ·cases h

theorem aOs {t:TypeId} (ht:P.underlying t=some .string):Reads P t (X:=List UInt8) (fun s=>s.length≤maxLen) (fun s=>[.s s]):=by
 intro H enc W fuel cs x h
 cases fuel with
 | zero=>simp [DataW.trod] at h
 | succ m =>
  unfold DataW.trod at h
  rw [ht] at h
  split at h
  all_goals first | (exfalso; simp_all; done) | skip
  ·rename_i s he
   split at h
   ·rename_i hc
    refine ⟨s.data.toList,(by show s.data.toList.length≤maxLen; rw [Array.length_toList]; exact hc),⟨_,_,rfl,?_,rfl⟩,aLn rfl⟩
    show Value.string s=Value.string ⟨s.data.toList.toArray⟩
    simp
   ·cases h

theorem aRs {X:Type} (p:Nat→X→Prop):∀ n,(∀ j,j<n→∃ x,p j x)→∃ l:List X,l.length=n∧∀ j x,l[j]?=some x→p j x
 | 0,_=>⟨[],rfl,fun j x h=>by simp at h⟩
 | n+1,h=>by
  obtain ⟨l,h1,h2⟩:=aRs p n fun j hj=>h j (by omega)
  obtain ⟨x,hx⟩:=h n (by omega)
  refine ⟨l++[x],by simp [h1],fun j y hj=>?_⟩
  by_cases e:j<l.length
  ·rw [List.getElem?_append_left e] at hj; exact h2 j y hj
  ·rw [List.getElem?_append_right (by omega)] at hj
   have:j - l.length=0:=by
    rcases Nat.eq_zero_or_pos (j - l.length) with h | h
    ·exact h
    ·rw [List.getElem?_eq_none (by simp; omega)] at hj; cases hj
   rw [this] at hj; simp at hj; subst hj
   have:j=n:=by omega
   rw [this]; exact hx

theorem VC.flat {X:Type} {g:X→List AV} {sz:Nat} (hg:∀ x,(g x).length=sz) {m:Mu} {i:Io} {b:Nat}:∀ (l:List X) (o:Nat),(∀ j x,l[j]?=some x→VC m i (g x) b (o+j * sz))→VC m i (l.flatMap g) b o
 | [],_,_=>trivial
 | x :: l,o,h=>by
  rw [List.flatMap_cons]
  refine VC.append (by simpa using h 0 x rfl) (VC.flat hg l _ fun j y hj=>?_)
  have:=h (j+1) y (by simpa using hj)
  rw [hg,show o+sz+j * sz=o+(j+1) * sz by rw [Nat.add_mul]; omega]
  exact this

theorem aIs {β:Type} {f:Nat→Option β}:∀ {n:Nat} {l:List β},(List.range n).mapM f=some l→∀ j,j<n→∃ y,f j=some y :=
 fun h j hj=>mapM_each h j (List.mem_range.2 hj)

theorem aTA {β:Type} {f:Nat→Option β}:∀ {n:Nat} {r:List β},(List.range n).mapM f=some r→r.length=n∧∀ k v,r[k]?=some v→f k=some v:=by
 intro n
 induction n with
 | zero=>intro r h; simp at h; subst h; exact ⟨rfl,fun k v hv=>by simp at hv⟩
 | succ n ih =>
  intro r h
  rw [List.range_succ,List.mapM_append] at h
  cases h3:(List.range n).mapM f with
  | none=>simp [h3] at h
  | some r0 =>
   simp only [h3,List.mapM_cons,List.mapM_nil] at h
   cases h4:f n with
   | none=>simp [h4] at h
   | some y =>
    simp [h4] at h
    subst h
    obtain ⟨hr0,hr1⟩:=ih h3
    refine ⟨by simp [hr0],fun k v hv=>?_⟩
    by_cases e:k<r0.length
    ·rw [List.getElem?_append_left e] at hv; exact hr1 k v hv
    ·rw [List.getElem?_append_right (by omega)] at hv
     have hz:k - r0.length=0:=by
      rcases Nat.eq_zero_or_pos (k - r0.length) with h | h
      ·exact h
      ·rw [List.getElem?_eq_none (by simp; omega)] at hv; cases hv
     rw [hz] at hv; simp at hv; subst hv
     have:k=n:=by omega
     rw [this]; exact h4

theorem aRF {t e sz:TypeId} (ht:P.underlying t=some (.slice e)) (hc:P.cellsOf e=sz) (hsz:0<sz) {X:Type} {ok:X→Prop} {g:X→List AV} (hg:∀ x,(g x).length=sz) (he:Reads P e ok g) :
  Reads P t (X:=List X) (fun l=>l.length≤maxLen∧∀ x∈l,ok x) (fun l=>[.slc (l.flatMap g) l.length false]):=by
 intro H enc W fuel cs x h
 cases fuel with
 | zero=>simp [DataW.trod] at h
 | succ m =>
  unfold DataW.trod at h
  rw [ht] at h
  split at h
  all_goals first | (exfalso; simp_all; done) | skip
  ·exact ⟨[],⟨by simp,fun x hx=>by cases hx⟩,⟨_,_,rfl,.inl ⟨rfl,rfl,none,rfl⟩,rfl⟩,aLn rfl⟩
  ·rename_i e' a len cap heq
   cases heq
   simp only at h
   split at h
   ·rename_i hb
    obtain ⟨_,hlc,hcm⟩:=hb
    rw [Option.bind_eq_some_iff] at h
    obtain ⟨elems,h1,h2⟩:=h
    rw [Option.map_eq_some_iff] at h2
    obtain ⟨rest,h2,_⟩:=h2
    rw [if_pos trivial] at h2
    rw [hc] at h1 h2
    by_cases hz:cap=0
    ·subst hz
     have:len=0:=by omega
     subst this
     exact ⟨[],⟨by simp,fun x hx=>by cases hx⟩,⟨_,_,rfl,.inl ⟨rfl,rfl,some a,rfl⟩,rfl⟩,aLn rfl⟩
    ·have hspot:a.spot=none:=by
      have hel:∃ y,(W.cells? 0 (a.add (0 * sz)) sz).bind (DataW.trod enc P W 0 (fun _=>true) true m e)=some y:=by
       by_cases hl:len=0
       ·subst hl
        obtain ⟨y,hy⟩:=aIs h2 0 (by omega)
        exact ⟨y,by simpa using hy⟩
       ·exact aIs h1 0 (by omega)
      obtain ⟨y,hy⟩:=hel
      rw [Option.bind_eq_some_iff] at hy
      obtain ⟨c0,hc0,_⟩:=hy
      unfold World.cells? at hc0
      rw [if_pos (Nat.zero_le _)] at hc0
      obtain ⟨v,hv⟩:=aIs hc0 0 hsz
      simp only [Nat.zero_mul,Addr.add,if_true] at hv
      unfold World.cell? at hv
      split at hv
      ·split at hv
       ·cases hv
       ·rename_i hn
        cases hs:a.spot with
        | none=>rfl
        | some s=>rw [hs] at hn; simp at hn
      ·cases hv
     have hadd:∀ k,a.add k=⟨a.block,a.off+k,none⟩:=by
      intro k
      obtain ⟨b,o,s⟩:=a
      simp only at hspot
      subst hspot
      unfold Addr.add
      split
      ·rename_i h0; subst h0; rfl
      ·rfl
     obtain ⟨l,hl1,hl2⟩:=aRs (fun j x=>ok x∧VC (mu0 W) io0 (g x) a.block (a.off+j * sz)) len fun j hj=>by
      obtain ⟨y,hy⟩:=aIs h1 j hj
      rw [Option.bind_eq_some_iff] at hy
      obtain ⟨c0,hc0,hy⟩:=hy
      obtain ⟨x,hok,hvl,hone⟩:=he enc W m c0 y hy
      refine ⟨x,hok,VC.of_list hvl fun k v hk=>?_⟩
      unfold World.cells? at hc0
      rw [if_pos (Nat.zero_le _)] at hc0
      have hlen:=hvl.eq_len
      rw [hg] at hlen
      have hk':k<sz:=by rw [hlen]; exact (List.getElem?_eq_some_iff.1 hk).1
      have hcell:W.cell? ((a.add (j * sz)).add k)=some v:=by
       exact (aTA hc0).2 k v hk
      rw [hadd,add_lit] at hcell
      exact aXR hcell (hone v (List.mem_of_getElem? hk))
     refine ⟨l,⟨by rw [hl1]; omega,fun x hx=>?_⟩,⟨_,_,rfl,.inr ⟨a.block,a.off,cap,?_,by omega,hcm,fun h=>(by cases h),?_⟩,rfl⟩,aLn rfl⟩
     ·obtain ⟨j,hj⟩:=List.getElem?_of_mem hx
      exact (hl2 j x hj).1
     ·obtain ⟨b,o,s⟩:=a
      simp only at hspot
      subst hspot
      rw [hl1]
     ·exact VC.flat hg l a.off fun j x hj=>(hl2 j x hj).2
   ·cases h
end
end Go.Am

/- The abstract machine, part 16: structs, arguments; a law that answers true whatever it is handed, told as the rows ask it. -/
namespace Go.Am
open Go Go.ChangeShapes Go.WideShapes Go.RowKit

section
variable {P:Program}

def aS7 (P:Program) (fs:List Field) (off n:Nat) {X:Type} (ok:X→Prop) (g:X→List AV):Prop :=
 ∀ ⦃H:Type⦄ (enc:TypeId×Value→H) (W:World) (fuel:Nat) (cs:List Value) (xs:List (DataW H×List MemPlace)),cs.length=n →
  (fs.mapM fun f=>DataW.trod enc P W 0 (fun _=>true) true fuel f.type ((cs.drop f.offset).take (P.cellsOf f.type)))=some xs→∃ a,ok a∧VL (mu0 W) io0 (g a) (cs.drop off)∧pY (cs.drop off)

theorem aZI {n:Nat}:aS7 P [] n n (X:=Unit) (fun _=>True) (fun _=>[]):=by
 intro H enc W fuel cs xs hl _
 refine ⟨(),trivial,?_,?_⟩
 ·rw [List.drop_of_length_le (by omega)]; rfl
 ·rw [List.drop_of_length_le (by omega)]; intro x hx; cases hx

theorem pY.append {xs ys:List Value} (h:pY xs) (k:pY ys):pY (xs++ys):=fun v hv=>(List.mem_append.1 hv).elim (h v) (k v)

theorem aYF {f:Field} {fs:List Field} {off n k:Nat} {X Y:Type} {ok:X→Prop} {g:X→List AV} {ok2:Y→Prop} {g2:Y→List AV}
  (h:Reads P f.type ok g) (hk:P.cellsOf f.type=k) (ho:f.offset=off) (r:aS7 P fs (off+k) n ok2 g2):aS7 P (f :: fs) off n (X:=X×Y) (fun p=>ok p.1∧ok2 p.2) (fun p=>g p.1++g2 p.2):=by
 intro H enc W fuel cs xs hl hx
 rw [List.mapM_cons] at hx
 cases h1:DataW.trod enc P W 0 (fun _=>true) true fuel f.type ((cs.drop f.offset).take (P.cellsOf f.type)) with
 | none=>simp [h1] at hx
 | some y =>
  cases h2:(fs.mapM fun f=>DataW.trod enc P W 0 (fun _=>true) true fuel f.type ((cs.drop f.offset).take (P.cellsOf f.type))) with
  | none=>simp [h1,h2] at hx
  | some ys =>
   obtain ⟨a,a1,a2,a3⟩:=h enc W fuel _ _ h1
   obtain ⟨b,b1,b2,b3⟩:=r enc W fuel cs ys hl h2
   rw [hk,ho] at a2 a3
   have e:cs.drop off=(cs.drop off).take k++cs.drop (off+k):=by
    rw [← List.drop_drop,List.take_append_drop]
   refine ⟨(a,b),⟨a1,b1⟩,?_,?_⟩
   ·rw [e]; exact a2.append b2
   ·rw [e]; exact a3.append b3

theorem aXH {t n:TypeId} {fs:Array Field} (ht:P.underlying t=some (.struct fs)) (hc:P.cellsOf t=n) {X Y:Type} {ok:X→Prop} {g:X→List AV} {ok2:Y→Prop} {g2:Y→List AV} (h:aS7 P fs.toList 0 n ok g)
  (iso:∀ a,ok a→∃ b,ok2 b∧g2 b=g a):Reads P t ok2 g2:=by
 intro H enc W fuel cs x hx
 cases fuel with
 | zero=>simp [DataW.trod] at hx
 | succ m =>
  unfold DataW.trod at hx
  rw [ht] at hx
  split at hx
  all_goals first | (exfalso; simp_all; done) | skip
  ·rename_i cs _ _ fs' heq
   cases heq
   split at hx
   ·rename_i hl
    rw [Option.map_eq_some_iff] at hx
    obtain ⟨xs,hx,_⟩:=hx
    obtain ⟨a,a1,a2,a3⟩:=h enc W m cs xs (hl.trans hc) hx
    obtain ⟨b,b1,b2⟩:=iso a a1
    exact ⟨b,b1,b2 ▸ (by simpa using a2),by simpa using a3⟩
   ·cases hx

def fieldsB (P:Program) (t:TypeId) (l:List (Nat×Nat)):Bool:=match P.underlying t with
 | some (.struct fs)=>decide (fs.toList.map (fun f=>(f.type,f.offset))=l)
 | _=>false

def aXo (P:Program) (l:List (Nat×Nat)) (off n:Nat) {X:Type} (ok:X→Prop) (g:X→List AV):Prop :=
 ∀ fs:List Field,fs.map (fun f=>(f.type,f.offset))=l→aS7 P fs off n ok g

theorem aTG {n:Nat}:aXo P [] n n (X:=Unit) (fun _=>True) (fun _=>[]):=by
 intro fs h
 obtain rfl:=List.map_eq_nil_iff.1 h
 exact aZI

theorem aAM {t:Nat} {l:List (Nat×Nat)} {off n k:Nat} {X Y:Type} {ok:X→Prop} {g:X→List AV} {ok2:Y→Prop} {g2:Y→List AV}
  (h:Reads P t ok g) (hk:P.cellsOf t=k) (r:aXo P l (off+k) n ok2 g2):aXo P ((t,off) :: l) off n (X:=X×Y) (fun p=>ok p.1∧ok2 p.2) (fun p=>g p.1++g2 p.2):=by
 intro fs hf
 cases fs with
 | nil=>cases hf
 | cons f fs =>
  simp only [List.map_cons,List.cons.injEq,Prod.mk.injEq] at hf
  obtain ⟨⟨rfl,h2⟩,h3⟩:=hf
  exact aYF h hk h2 (r fs h3)

theorem aMX {t n:TypeId} {l:List (Nat×Nat)} (hf:fieldsB P t l=true) (hc:P.cellsOf t=n) {X Y:Type} {ok:X→Prop} {g:X→List AV} {ok2:Y→Prop} {g2:Y→List AV} (h:aXo P l 0 n ok g)
  (iso:∀ a,ok a→∃ b,ok2 b∧g2 b=g a):Reads P t ok2 g2:=by
 unfold fieldsB at hf
 split at hf
 ·rename_i fs ht
  exact aXH ht hc (h fs.toList (of_decide_eq_true hf)) iso
 ·cases hf

def aO9 (P:Program) (t:TypeId) {X:Type} (ok:X→Prop) (f:X→AV):Prop :=
 ∀ ⦃H:Type⦄ (enc:TypeId×Value→H) (W:World) (base:Nat) (v:Value) (d:DataW H) (ps:List MemPlace),Value.okWide P W .any base t v→DataW.Trod enc P W 0 (fun _=>true) true t v d ps→∃ a,ok a∧VR (mu0 W) io0 (f a) v

theorem bAg {t:TypeId} {fs:Array Field} (ht:P.underlying t=some (.struct fs)) {X:Type} {ok:X→Prop} {g:X→List AV} (h:Reads P t ok g):aO9 P t ok (fun x=>.agg (g x)):=by
 intro H enc W base v d ps hv ⟨fuel,hr⟩
 obtain ⟨cs,rfl,_⟩:=okWide_struct ht hv
 obtain ⟨a,h1,h2,h3⟩:=h enc W fuel _ _ hr
 exact ⟨a,h1,cs.toList,by simp,h3,h2⟩

theorem aZu {t:TypeId} {l:List (Nat×Nat)} (hf:fieldsB P t l=true) {X:Type} {ok:X→Prop} {g:X→List AV} (h:Reads P t ok g):aO9 P t ok (fun x=>.agg (g x)):=by
 unfold fieldsB at hf
 split at hf
 ·rename_i fs ht
  exact bAg ht h
 ·cases hf

def aLT (P:Program) (ts:List TypeId) {X:Type} (ok:X→Prop) (g:X→List AV):Prop :=
 ∀ ⦃H:Type⦄ (enc:TypeId×Value→H) (W:World) (base:Nat) (vs:List Value) (ds:List (DataW H)) (ps:List MemPlace),(∀ (j:Nat) t v,ts[j]?=some t→vs[j]?=some v→Value.okWide P W .any base t v) →
  DataW.TrodAll enc P W 0 (fun _=>true) true ts vs ds ps→∃ a,ok a∧VL (mu0 W) io0 (g a) vs

theorem bCO:aLT P [] (X:=Unit) (fun _=>True) (fun _=>[]):=by
 intro H enc W base vs ds ps _ h
 cases vs with
 | nil=>exact ⟨(),trivial,rfl⟩
 | cons v vs=>cases ds <;> exact h.elim

theorem bBG {t:TypeId} {ts:List TypeId} {X Y:Type} {ok:X→Prop} {f:X→AV} {ok2:Y→Prop} {g:Y→List AV} (h:aO9 P t ok f) (k:aLT P ts ok2 g) :
  aLT P (t :: ts) (X:=X×Y) (fun p=>ok p.1∧ok2 p.2) (fun p=>f p.1 :: g p.2):=by
 intro H enc W base vs ds ps hv hr
 cases vs with
 | nil=>cases ds <;> exact hr.elim
 | cons v vs =>
  cases ds with
  | nil=>exact hr.elim
  | cons d ds =>
   obtain ⟨p,q,h1,h2,_⟩:=hr
   obtain ⟨a,a1,a2⟩:=h enc W base v d p (hv 0 t v rfl rfl) h1
   obtain ⟨b,b1,b2⟩:=k enc W base vs ds q (fun j t v h h'=>hv (j+1) t v (by simpa using h) (by simpa using h')) h2
   exact ⟨(a,b),⟨a1,b1⟩,v,vs,rfl,a2,b2⟩

theorem aJJ {H:Type} {enc:TypeId×Value→H} {W:World} {b:Nat} {sp:Nat→Bool} {hd:Bool}:∀ {ts:List TypeId} {vs:List Value} {ds:List (DataW H)} {ps:List MemPlace},DataW.TrodAll enc P W b sp hd ts vs ds ps→ds.length=ts.length
 | [],[],[],_,_=>rfl
 | _ :: _,_ :: _,_ :: _,_,⟨_,_,_,h,_⟩=>by simp [aJJ h]
 | [],_ :: _,_,_,h=>by cases h
 | [],[],_ :: _,_,h=>by cases h
 | _ :: _,[],_,_,h=>by cases h
 | _ :: _,_ :: _,[],_,h=>by cases h

theorem aGU {H:Type} {enc:TypeId×Value→H} {W W':World} {sp:Nat→Bool} (K:Kids P (· < P.types.size)) (hz:∀ t e,t<P.types.size→P.underlying t=some (.slice e)→0<P.cellsOf e) (hb:∀ b,b<W.heap.size→W'.heap[b]?=W.heap[b]?) :
  ∀ {ts:List TypeId} {vs:List Value} {ds:List (DataW H)} {ps:List MemPlace},(∀ t∈ts,t<P.types.size)→DataW.TrodAll enc P W 0 (fun _=>true) true ts vs ds ps→(∀ p∈ps,sp p.block=true)→DataW.TrodAll enc P W' 0 sp true ts vs ds ps
 | [],[],[],_,_,h,_=>h
 | t :: ts,v :: vs,d :: ds,_,hT,⟨p,q,⟨fuel,h1⟩,h2,e⟩,hs=>by
  subst e
  refine ⟨p,q,⟨fuel,?_⟩,aGU K hz hb (fun t ht=>hT t (List.mem_cons_of_mem _ ht)) h2 fun x hx=>hs x (List.mem_append_right _ hx),rfl⟩
  refine DataW.trod_stays K (fun ht hu=>hz _ _ ht hu) (fun h=>by cases h) (hT t List.mem_cons_self) h1 (fun x hx=>?_) fun x hx=>hs x (List.mem_append_left _ hx)
  have hlt:=DataW.trod_lt _ _ _ _ h1 x hx
  cases x with
  | cell b off=>show W'.cell? _=W.cell? _; simp only [World.cell?,hb b hlt]
  | map b=>exact hb b hlt
 | [],_ :: _,_,_,_,h,_=>by cases h
 | [],[],_ :: _,_,_,h,_=>by cases h
 | _ :: _,[],_,_,_,h,_=>by cases h
 | _ :: _,_ :: _,[],_,_,h,_=>by cases h

theorem bCm {H:Type} {enc:TypeId×Value→H} {f:Func} {s:ChangeSpec} {apart fresh handsOn again:Bool} {W W':World} {args:Array Value} {ds gs:List (DataW H)} {before:List MemPlace} {tb:TypeId}
  (K:Kids P (· < P.types.size)) (hz:∀ t e,t<P.types.size→P.underlying t=some (.slice e)→0<P.cellsOf e) (hpar:∀ t∈f.params.toList,t<P.types.size)
  (hrt:f.resultTypes=#[tb]) (htb:P.underlying tb=some .bool) (hvars:s.vars=[]) (hW:DataW.Whole enc P f.params.toList s.vars apart W args.toList ds gs before)
  (hs:(s.fn H (ds++gs)).results=[.lit (.bool true)]∧(s.fn H (ds++gs)).args=ds∧(s.fn H (ds++gs)).vars=[])
  (hos:W'.os=W.os) (hout:W'.output=W.output) (hb:∀ b,b<W.heap.size→W'.heap[b]?=W.heap[b]?) :
  s.post enc P f apart fresh handsOn again W args (.bool true) W':=by
 have hW':=hW
 obtain ⟨p,q,h1,h2,h3,h4,h5⟩:=hW
 rw [hvars] at h2
 obtain ⟨hgs,hq⟩:=trodVars_none h2
 subst hgs
 subst hq
 rw [List.append_nil] at h3
 subst h3
 have hold:∀ x∈before,(fun b=>decide (b<W.heap.size)) x.block=true:=fun x hx=>by simpa using hW'.lt x hx
 have hres:∀ (b:Nat) (sp:Nat→Bool) (hd:Bool),DataW.TrodAll enc P W' b sp hd f.resultTypes.toList ((Value.bool true).resultList f.resultTypes.size) (s.fn H (ds++[])).results []:=by
  intro b sp hd
  rw [hs.1,hrt]
  exact trodAll_mk1 (shut_bool htb true)
 refine ⟨ds,[],before,[],before,[],hW',hres _ _ _,?_,?_,?_,fun _=>⟨ok_one hrt rfl (okWide_bool_mk htb true),[.lit (.bool true)]++ds,[],before,⟨before,[],?_,?_,by simp,?_,h5⟩,fun x hx _=>hx⟩⟩
 ·rw [hs.2.1]; exact aGU K hz hb hpar h1 hold
 ·rw [hvars,hs.2.2]; exact rfl
 ·exact ⟨hos,hout,fun i hi=>by rw [hb i hi]; exact (World.keptBut_refl W (fun p=>p∈before∧(p∈([]:List MemPlace)∨p∈before∨p∈([]:List MemPlace)))).2.2 i hi⟩
 ·have:=trodAll_append (aGU K hz hb (sp:=fun _=>true) hpar h1 fun _ _=>rfl) (hs.1 ▸ hres 0 (fun _=>true) true)
  simpa using this
 ·rw [hvars]; exact rfl
 ·intro b off hx
  have hlt:=hW'.lt _ hx
  rw [show W'.frozen? ⟨b,off,none⟩=W.frozen? ⟨b,off,none⟩ by simp only [World.frozen?,hb b hlt]]
  exact h4 b off hx

theorem bEL {L:List (String×DataW Unit)} {C:Checked} {os:Os} {H:Type} {enc:TypeId×Value→H} {fid:FuncId} {fn:Func} {s:ChangeSpec} {conds:List PathCond} {apart fresh handsOn again:Bool} {a:Assume} {tb:TypeId} {X:Type} {ok:X→Prop} {g:X→List AV}
  (own:ownKnob C.prog.godebug=none) (started:os.Started) (noInit:C.prog.inits.idxOf? fid=none) (hfn:C.prog.funcs[fid]?=some fn)
  (witness:∃ (w:World) (tape:Tape) (i:Input),w.os=os∧(w.forCall tape i).Shaped C.prog∧i.vars=[]∧Input.okWide C.prog (w.forCall tape i) .any w.heap.size fid i ∧
   ((s.pre enc C.prog fn conds apart (w.forCall tape i).memory i.args∧laidMetH C.prog L (w.forCall tape i).memory)∧sizedMet enc C.prog fn (OpenSpec.ofChange s) apart (w.forCall tape i).memory i.args)∧a.holds C.prog (lone (Frame.enter C.prog fid i.args .normal) [] (w.forCall tape i)))
  (K:Kids C.prog (· < C.prog.types.size)) (hz:∀ t e,t<C.prog.types.size→C.prog.underlying t=some (.slice e)→0<C.prog.cellsOf e) (hpar:∀ t∈fn.params.toList,t<C.prog.types.size)
  (hrt:fn.resultTypes=#[tb]) (htb:C.prog.underlying tb=some .bool) (hvars:s.vars=[])
  (hs:∀ ds:List (DataW H),ds.length=fn.params.toList.length→(s.fn H ds).results=[.lit (.bool true)]∧(s.fn H ds).args=ds∧(s.fn H ds).vars=[])
  (hT:∀ (W:World),laidMetH C.prog L W→∀ b o v,Tab b o=some v→W.cell? ⟨b,o,none⟩=some v∧v.oneCell'=true) (hr:aLT C.prog fn.params.toList ok g) (law:∀ x,ok x→lO C.prog fid (g x) [] (fun av s=>av=.b true∧s=[])) :
  ReturnsInHanded a C os fid .any (fun w args=>(s.pre enc C.prog fn conds apart w args∧laidMetH C.prog L w)∧sizedMet enc C.prog fn (OpenSpec.ofChange s) apart w args) (s.post enc C.prog fn apart fresh handsOn again):=by
 refine returnsInHanded_of_change_and (C:=C) (X:=fun w _=>laidMetH C.prog L w) (fun _ _ _ hh h=>laidMetH.of_heap hh h) own started noInit hfn witness ?_
 intro W base args ds gs before hval hW _ _ hL _
 have hW':=hW
 obtain ⟨p,q,hA,hV,_⟩:=hW
 rw [hvars] at hV
 obtain ⟨hgs,_⟩:=trodVars_none hV
 obtain ⟨x,hx,hvl⟩:=hr enc W base args.toList ds p (fun j t v h1 h2=>hval j t v (by simpa using h1) (by simpa using h2)) hA
 have hlen:=aJJ hA
 refine (law x hx W (mu0 W) io0 args.toList (nX.start W (hT W hL)) hvl).mono ?_
 rintro e W' ⟨v,av,s',m',i',rfl,⟨rfl,rfl⟩,hv,_,hst⟩
 have hv':v=.bool true:=hv
 subst hv'
 refine ⟨_,rfl,bCm K hz hpar hrt htb hvars hW' (hs _ (by rw [hgs,List.append_nil]; exact hlen) |> fun h=>⟨h.1,by rw [h.2.1,hgs,List.append_nil],h.2.2⟩) hst.os hst.output fun b hb=>hst.block b hb fun ⟨p,hp,_⟩=>by cases hp⟩
end
end Go.Am

/- What the listed tables of a row's condition say of memory: their cells, one by one. -/
namespace Go.Am
open Go Go.ChangeShapes Go.WideShapes Go.RowKit

mutual
def leaves:DataW Unit→List Value
 | .lit (.int k n)=>[.int k n]
 | .agg ds=>aO4 ds
 | _=>[]
def aO4:List (DataW Unit)→List Value
 | []=>[]
 | d :: ds=>leaves d++aO4 ds
end

section
variable {P:Program}
def Inv (P:Program) (t:TypeId):Prop:=∀ (W:World) (base:Nat) (spare:Nat→Bool) (held:Bool) (fuel:Nat) (cs:List Value) (x:DataW Unit×List MemPlace),
 DataW.trod (fun _=>()) P W base spare held fuel t cs=some x→cs=leaves x.1

theorem bE2 {t:TypeId} {k:IntKind} (ht:P.underlying t=some (.int k)):Inv P t:=by
 intro W base spare held fuel cs x h
 obtain ⟨n,rfl,rfl,_⟩:=DataW.trod_int ht h
 simp only [leaves]

theorem aF0 {sz:Nat}:∀ (xs:List (DataW Unit×List MemPlace)) (cs:List Value),cs.length=xs.length * sz→(∀ i x,xs[i]?=some x→(cs.drop (i * sz)).take sz=leaves x.1)→cs=aO4 (xs.map (·.1))
 | [],cs,h,_=>by
  simp only [List.length_nil,Nat.zero_mul] at h
  rw [List.length_eq_zero_iff.1 h]
  simp only [List.map_nil,aO4]
 | x :: xs,cs,h,hx=>by
  have h0:=hx 0 x rfl
  rw [Nat.zero_mul,List.drop_zero] at h0
  have ih:=aF0 (sz:=sz) xs (cs.drop sz) (by rw [List.length_drop,h,List.length_cons,Nat.add_mul,Nat.one_mul,Nat.add_sub_cancel]) fun i y hy=>by
   have:=hx (i+1) y (by simpa using hy)
   rw [List.drop_drop,show sz+i * sz=(i+1) * sz from by rw [Nat.add_mul,Nat.one_mul,Nat.add_comm]]
   exact this
  simp only [List.map_cons,aO4]
  rw [← h0,← ih,List.take_append_drop]

theorem aV2 {t e:TypeId} {n sz:Nat} (ht:P.underlying t=some (.array n e)) (hc:P.cellsOf e=sz) (hn:P.cellsOf t=n * sz) (he:Inv P e):Inv P t:=by
 intro W base spare held fuel cs x h
 obtain ⟨xs,m,rfl,rfl,h1,h2,h3⟩:=DataW.trod_array ht h
 simp only [leaves]
 refine aF0 (sz:=sz) xs cs (by rw [h1,h2,hn]) fun i y hy=>?_
 have hi:i<n:=by rw [← h2]; exact (List.getElem?_eq_some_iff.1 hy).1
 have:=h3 i hi
 rw [hc,hy] at this
 exact he _ _ _ _ _ _ _ this

theorem aXV {t e:TypeId} {fs:Array Field} {f0 f1:Field} {sz:Nat} (ht:P.underlying t=some (.struct fs)) (h0:fs[0]?=some f0) (h1:fs[1]?=some f1) (hn:fs.size=2) (e0:f0.type=e) (e1:f1.type=e)
  (o0:f0.offset=0) (o1:f1.offset=sz) (hc:P.cellsOf e=sz) (ht2:P.cellsOf t=2 * sz) (he:Inv P e):Inv P t:=by
 intro W base spare held fuel cs x h
 obtain ⟨xs,m,rfl,rfl,g1,g2,g3⟩:=DataW.trod_struct ht h
 simp only [leaves]
 refine aF0 (sz:=sz) xs cs (by rw [g1,g2,hn,ht2]) fun i y hy=>?_
 have hi:i<2:=by rw [← hn,← g2]; exact (List.getElem?_eq_some_iff.1 hy).1
 have key:∀ (f:Field),fs[i]?=some f→f.type=e→f.offset=i * sz→(cs.drop (i * sz)).take sz=leaves y.1:=by
  intro f hf a b
  have:=g3 i f hf
  rw [a,b,hc,hy] at this
  exact he _ _ _ _ _ _ _ this
 match i,hi with
 | 0,_=>exact key f0 h0 e0 (by rw [o0,Nat.zero_mul])
 | 1,_=>exact key f1 h1 e1 (by rw [o1,Nat.one_mul])

theorem cells_of_laid {W:World} {n:String} {d:DataW Unit} {g t:Nat} {cs:Array Value} {fuel:Nat} {p:List MemPlace} (hg:P.globalNamed n=some g) (hv:W.var? P n=some cs)
  (hd:DataW.trod (fun _=>()) P W 0 (fun _=>true) false fuel t cs.toList=some (d,p)) (hi:Inv P t) (o:Nat):W.cell? ⟨g,o,none⟩=(leaves d)[o]?:=by
 rw [World.var?_cell hg hv o,← hi _ _ _ _ _ _ _ hd]
 simp

theorem bGV {W:World} (h:∀ b l,lkN tabs b=some l→∀ o,W.cell? ⟨b,o,none⟩=l[o]?) (h1:(tabs.all fun p=>p.2.all Value.oneCell')=true) (b o:Nat) (v:Value) (hv:Tab b o=some v) :
  W.cell? ⟨b,o,none⟩=some v∧v.oneCell'=true:=by
 unfold Tab at hv
 cases hl:lkN tabs b with
 | none=>rw [hl] at hv; cases hv
 | some l =>
  rw [hl,Option.bind_some] at hv
  refine ⟨by rw [h b l hl o,hv],?_⟩
  have hm:∀ (ts:List (Nat×List Value)),lkN ts b=some l→(b,l)∈ts:=by
   intro ts
   induction ts with
   | nil=>intro h; cases h
   | cons p ts ih =>
    intro h
    obtain ⟨k,l'⟩:=p
    unfold lkN at h
    split at h
    ·rename_i e; cases h; rw [Nat.eq_of_beq_eq_true e]; exact List.mem_cons_self
    ·exact List.mem_cons_of_mem _ (ih h)
  have:=List.all_eq_true.1 h1 _ (hm tabs hl)
  exact List.all_eq_true.1 this _ (List.mem_of_getElem? hv)
end
end Go.Am

/- What a law of this seat starts from: the listed tables in memory, its arguments. -/
namespace Go.Proofs.YtjhfgiieicloeaaGreatDoor
open Go Go.Am Go.Sx Go.ChangeShapes Go.WideShapes Go.ChangeAt Go.RowKit
theorem own:ownKnob Tryz.prog.godebug=none:=by kernel_rfl
theorem kids:Kids Tryz.prog (· < Tryz.prog.types.size):=kids_rows (by kernel_rfl) (by kernel_rfl)
theorem full:∀ t e,t<Tryz.prog.types.size→Tryz.prog.underlying t=some (.slice e)→0<Tryz.prog.cellsOf e:=slices_full_of Tryz.prog (by kernel_rfl)
theorem bG6:Tryz.prog.underlying 3=some (.int .i64):=by kernel_rfl
theorem bJK:Tryz.prog.underlying 4=some .bool:=by kernel_rfl
theorem bJE:Tryz.prog.underlying 5=some (.int .u8):=by kernel_rfl
theorem bI1:Tryz.prog.underlying 9=some .string:=by kernel_rfl
theorem bIf:Tryz.prog.underlying 159=some (.array 256 5):=by kernel_rfl
theorem bG9:Tryz.prog.underlying 162=some (.array 16 161):=by kernel_rfl
theorem bG0:Tryz.prog.globalNamed "unicode/utf8.first" = some 0:=by kernel_rfl
theorem bJM:Tryz.prog.globalNamed "unicode/utf8.acceptRanges" = some 1:=by kernel_rfl
theorem bHQ:(Tryz.prog.globals[0]?).map (·.type)=some 159:=by kernel_rfl
theorem bJJ:(Tryz.prog.globals[1]?).map (·.type)=some 162:=by kernel_rfl
def bA8:List (String×DataW Unit):=[("unicode/utf8.acceptRanges", Rows.laid_unicode_utf8_acceptRanges),("unicode/utf8.first", Rows.laid_unicode_utf8_first)]

theorem bJt:Inv Tryz.prog 5:=bE2 bJE
theorem bG8:Inv Tryz.prog 159:=aV2 (sz:=1) bIf (by kernel_rfl) (by kernel_rfl) bJt
theorem bHa:Inv Tryz.prog 161:=by
 have h:∃ fs f0 f1,Tryz.prog.underlying 161=some (.struct fs)∧fs[0]?=some f0∧fs[1]?=some f1∧fs.size=2∧f0.type=5∧f1.type=5∧f0.offset=0∧f1.offset=1 :=
  ⟨_,_,_,Tryz.underlying161,rfl,rfl,rfl,rfl,rfl,rfl,rfl⟩
 obtain ⟨fs,f0,f1,h1,h2,h3,h4,h5,h6,h7,h8⟩:=h
 exact aXV (sz:=1) h1 h2 h3 h4 h5 h6 h7 h8 (by kernel_rfl) (by kernel_rfl) bJt
theorem bHE:Inv Tryz.prog 162:=aV2 (sz:=2) bG9 (by kernel_rfl) (by kernel_rfl) bHa
theorem aW0:leaves Rows.laid_unicode_utf8_first=bAF.map fun n=>.int .u8 n:=by kernel_rfl
theorem aZ6:leaves Rows.laid_unicode_utf8_acceptRanges=aZE.flatMap fun p=>[.int .u8 p.1,.int .u8 p.2]:=by kernel_rfl

theorem bBI (W:World) (h:laidMetH Tryz.prog bA8 W):∀ b o v,Tab b o=some v→W.cell? ⟨b,o,none⟩=some v∧v.oneCell'=true:=by
 rw [MakeChecks.laidMetH_plain _ _ _ (by kernel_rfl)] at h
 obtain ⟨ps,⟨g1,t1,cs1,f1,p1,q1,hg1,ht1,hv1,hd1,⟨g0,t0,cs0,f0,p0,q0,hg0,ht0,hv0,hd0,_,_⟩,_⟩,_,_⟩:=h
 obtain rfl:=Option.some.inj (bJM.symm.trans hg1)
 obtain rfl:=Option.some.inj (bG0.symm.trans hg0)
 obtain rfl:=Option.some.inj (bJJ.symm.trans ht1)
 obtain rfl:=Option.some.inj (bHQ.symm.trans ht0)
 have c0:=fun o=>cells_of_laid hg0 hv0 hd0 bG8 o
 have c1:=fun o=>cells_of_laid hg1 hv1 hd1 bHE o
 rw [aW0] at c0
 rw [aZ6] at c1
 refine bGV (fun b l hl o=>?_) (by kernel_rfl)
 unfold tabs at hl
 unfold lkN at hl
 split at hl
 ·rename_i e; cases hl; rw [Nat.eq_of_beq_eq_true e]; exact c0 o
 ·unfold lkN at hl
  split at hl
  ·rename_i e; cases hl; rw [Nat.eq_of_beq_eq_true e]; exact c1 o
  ·cases hl

noncomputable def laidWorld (os:Os):World :=
 let w0:=World.holding Tryz.prog os ⟨#[],#[],[]⟩
 { w0 with heap:=(w0.heap.modify 0 fun
   | .cells _ t fr=>.cells (bAF.map fun n=>Value.int .u8 n).toArray t fr
   | o=>o).modify 1 fun
   | .cells _ t fr=>.cells (aZE.flatMap fun p=>[Value.int .u8 p.1,Value.int .u8 p.2]).toArray t fr
   | o=>o }
theorem door_met (os:Os) (args:Array Value):laidMetH Tryz.prog bA8 ((laidWorld os).forCall (fun _ _=>0) ⟨#[],args,[]⟩).memory :=
 laidMetH_of_parts3 (fuel:=8) (laidMet_of_run' 8 (by kernel_rfl) (by kernel_rfl)) (by kernel_rfl) (by kernel_rfl)
theorem aZl (os:Os) (args:Array Value):((laidWorld os).forCall (fun _ _=>0) ⟨#[],args,[]⟩).Shaped Tryz.prog:=World.shaped_of_RefB (by kernel_rfl) (by kernel_rfl)
end Go.Proofs.YtjhfgiieicloeaaGreatDoor

/- The arguments of this seat's laws, read out of memory as typed values. -/
namespace Go.Proofs.YtjhfgiieicloeaaGreatDoor
open Go Go.Am Go.Sx Go.ChangeShapes Go.WideShapes Go.ChangeAt Go.RowKit
theorem bI4:Tryz.prog.underlying 22=some (.slice 51):=by kernel_rfl
theorem bJa:Tryz.prog.underlying 49=some (.slice 3):=by kernel_rfl
abbrev bGq:Ty:=.list false (.int .i64)
abbrev bBs:Ty:=.pair (.int .i64) (.pair (.int .i64) (.pair .str (.pair .str bGq)))
def okI (n:Int):Prop:=(Lit.int .i64 n).wf=true
def bDI (c:Cell):Prop:=okI c.1∧okI c.2.1∧c.2.2.1.length≤maxLen∧c.2.2.2.1.length≤maxLen∧c.2.2.2.2.length≤maxLen∧∀ n∈c.2.2.2.2,okI n
def bBr (l:List Cell):Prop:=l.length≤maxLen∧∀ c∈l,bDI c
theorem aZX:Reads Tryz.prog 49 (X:=List Int) (fun l=>l.length≤maxLen∧∀ n∈l,okI n) (fun l=>bGq.cells l) :=
 aRF (sz:=1) bJa (by kernel_rfl) (by decide) (fun _=>rfl) (aP1 bG6)
theorem aZK:Reads Tryz.prog 51 bDI (fun c=>bBs.cells c) :=
 aMX (n:=5) (l:=[(3,0),(3,1),(9,2),(9,3),(49,4)]) (by kernel_rfl) (by kernel_rfl)
  (aAM (k:=1) (aP1 bG6) (by kernel_rfl) (aAM (k:=1) (aP1 bG6) (by kernel_rfl) (aAM (k:=1) (aOs bI1) (by kernel_rfl) (aAM (k:=1) (aOs bI1) (by kernel_rfl) (aAM (k:=1) aZX (by kernel_rfl) aTG)))))
  (fun ⟨a0,a1,a2,a3,a4,_⟩ ⟨h0,h1,h2,h3,h4,_⟩=>⟨(a0,a1,a2,a3,a4),⟨h0,h1,h2,h3,h4.1,h4.2⟩,rfl⟩)
theorem aZb:Reads Tryz.prog 22 bBr (fun l=>(Ty.list false bBs).cells l):=aRF (sz:=5) bI4 (by kernel_rfl) (by decide) (fun x=>Ty.cells_len bBs x) aZK
theorem bDD:aO9 Tryz.prog 24 bBr (fun l=>.agg ((Ty.list false bBs).cells l)) :=
 aZu (l:=[(22,0)]) (by kernel_rfl) (aMX (n:=1) (l:=[(22,0)]) (by kernel_rfl) (by kernel_rfl) (aAM (k:=1) aZb (by kernel_rfl) aTG) (fun a h=>⟨a.1,h.1,by simp⟩))
end Go.Proofs.YtjhfgiieicloeaaGreatDoor

