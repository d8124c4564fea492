/- Joined texts: Sx7, Sx8, Sx9, Sx10, Sx11, Sx12. -/
import Derived.Test.YtjhfgiieicloeaaGreatDoorGc
/- The executor, part 7: new objects; objects written; rows that grow. -/
namespace Go.Sx
open Go Go.Am

def aQS (ids:jI) (nk id:Nat):jI:=fun k=>if Nat.beq k nk then id else ids k
theorem pR (ids:jI) (nk id:Nat):jI.agree nk ids (aQS ids nk id):=fun j hj=>by unfold aQS; rw [fN (by omega)]; rfl
theorem lS (ids:jI) (nk id:Nat):aQS ids nk id nk=id:=by unfold aQS; rw [eB,if_pos rfl]

section
variable {P:Program} {T:TT} {R:Type}

def aPh (st:St) (ρ:bW) (sto1:List (Nat×OB)) (n:Nat) (ds:List Dyn) (ob:OB) (sv:SV) (kk:SV→St→bW→Option R):Option R :=
 (match (st.ok && aJF st.nv st.nk sto1:Bool) with | true=>kk sv { live:=st.live,sto:=(st.nk,ob) :: sto1,nv:=st.nv+n,nk:=st.nk+1 } (vI ρ st.nv ds) | false=>none)

theorem aC1 {st:St} {ρ:bW} {ids:jI} {sto1:List (Nat×OB)} {n:Nat} {ds:List Dyn} {ob:OB} {sv:SV} {kk:SV→St→bW→Option R} {r:R} {o:Oper} {Rr:AV→aN→Prop}
  (h:aPh st ρ sto1 n ds ob sv kk=some r) (ha:sP P o (eA st ρ ids) (bL st.sto ρ ids) Rr)
  (hR:∀ av s',Rr av s'→∃ id,av=aL (vI ρ st.nv ds) (aQS ids st.nk id) sv∧s'=(id,dQ (vI ρ st.nv ds) (aQS ids st.nk id) ob) :: bL sto1 ρ ids):HOk P o st ρ ids kk r:=by
 unfold aPh at h
 split at h
 ·rename_i hb
  simp only [Bool.and_eq_true,St.ok] at hb
  obtain ⟨⟨hlive,hst⟩,hs1⟩:=hb
  refine ⟨Rr,ha,fun av s' hr=>?_⟩
  obtain ⟨id,h1,h2⟩:=hR av s' hr
  refine ⟨sv,_,_,aQS ids st.nk id,h,h1,?_,rB (st:=st) (jC _ _ _) (pR _ _ _) hlive,fun key o' q1 q2=>?_,pR _ _ _,Nat.le_succ _⟩
  ·have e:=pG (jC ρ st.nv ds) (pR ids st.nk id) hs1
   rw [h2]
   unfold bL at e ⊢
   rw [List.map_cons,e,lS]
  ·obtain ⟨g1,g2⟩:=sE hst q1
   rw [pR ids st.nk id key g1,aAz (jC ρ st.nv ds) (pR ids st.nk id) g2]
 ·cases h

def aZJ (T:TT) (e:Nat) (st:St) (ρ:bW) (kk:SV→St→bW→Option R):Option R:=match lk T.zero e with
 | none=>none
 | some zs=>(match (zs.all Value.oneCell':Bool) with
  | true=>(match aZj zs with
   | none=>none
   | some cs=>aPh st ρ st.sto 0 [] (.cells e cs.length cs false) (.ref st.nk 0) kk)
  | false=>none)
theorem aYX:∀ {vs:List Value} {xs:List SV},aZj vs=some xs→xs.length=vs.length
 | [],xs,h=>by cases h; rfl
 | v :: vs,xs,h=>by
  simp only [aZj] at h
  split at h
  ·cases h
  ·split at h
   ·cases h
   ·rename_i xs' hs; cases h; simp [aYX hs]
theorem bBN (hT:eG P T) {o:Oper} {e:Nat} {st:St} {ρ:bW} {ids:jI} {kk:SV→St→bW→Option R} {r:R} (ho:o.op=.alloc e) (h:aZJ T e st ρ kk=some r):HOk P o st ρ ids kk r:=by
 unfold aZJ at h
 split at h
 ·cases h
 ·rename_i zs hz
  split at h
  ·rename_i h1
   split at h
   ·cases h
   ·rename_i cs hc
    refine aC1 h (aWc hT ho hz h1) ?_
    rintro av s' ⟨k,rfl,rfl⟩
    refine ⟨k,by simp only [aL,lS],?_⟩
    simp only [dQ,Bool.false_eq_true,if_false]
    rw [aSF hc,aYX hc]
  ·cases h

def bHg (e:Nat) (x:SV) (st:St) (ρ:bW) (kk:SV→St→bW→Option R):Option R:=match x with
 | .agg cs=>aPh st ρ st.sto 0 [] (.cells e cs.length cs false) (.ref st.nk 0) kk
 | x=>(match (bAJ ρ x:Bool) with | true=>aPh st ρ st.sto 0 [] (.cells e 1 [x] false) (.ref st.nk 0) kk | false=>none)
theorem aWj {st:St} {x:Operand} {sv:SV} (h:aNF st.nv st.nk st.live=true) (hx:hP st.live x=some sv):SV.ok st.nv st.nk sv=true:=by
 cases x with
 | tmp k=>exact aQw h hx
 | const v =>
  simp only [hP] at hx
  unfold cst at hx
  split at hx <;> cases hx <;> rfl
 | func f=>cases hx; rfl
 | global g=>cases hx
theorem bFO {o:Oper} {e:Nat} {xo:Operand} {x:SV} {st:St} {ρ:bW} {ids:jI} {kk:SV→St→bW→Option R} {r:R} (ho:o.op=.box e xo) (hx:hP st.live xo=some x) (h:bHg e x st ρ kk=some r):HOk P o st ρ ids kk r:=by
 have hok:∀ {sto1 n ds ob sv},aPh st ρ sto1 n ds ob sv kk=some r→aNF st.nv st.nk st.live=true:=fun h=>by
  unfold aPh at h
  split at h
  ·rename_i hb; simp only [Bool.and_eq_true,St.ok] at hb; exact hb.1.1
  ·cases h
 unfold bHg at h
 split at h
 ·rename_i cs
  have hl:=aWj (hok h) hx
  simp only [SV.ok] at hl
  refine aC1 h (bAP (cs:=bQ ρ ids cs) ho (by rw [bB hx]; simp only [aL])) ?_
  rintro av s' ⟨k,rfl,rfl⟩
  refine ⟨k,by simp only [aL,lS],?_⟩
  simp only [dQ,Bool.false_eq_true,if_false]
  rw [oS (jC _ _ _) (pR _ _ _) cs hl,fE]
 ·rename_i hne
  split at h
  ·rename_i hsc
   have hl:=aWj (hok h) hx
   have hs:=aPU (ids:=ids) hsc
   refine aC1 h (bAP (cs:=[aL ρ ids x]) ho (by
    rw [bB hx]
    split
    ·rename_i cs hcs; rw [hcs] at hs; cases hs
    ·rw [if_pos hs])) ?_
   rintro av s' ⟨k,rfl,rfl⟩
   refine ⟨k,by simp only [aL,lS],?_⟩
   simp only [dQ,Bool.false_eq_true,if_false,bQ]
   rw [aNz (jC _ _ _) (pR _ _ _) x hl]
   rfl
  ·cases h

/-! ### a row's list is said anew in all that speaks of it -/
mutual
def reRow (key nv:Nat):SV→SV
 | .row k j=>if Nat.beq k key then .row k nv else .row k j
 | .ptr cs=>.ptr (aAI key nv cs)
 | .agg cs=>.agg (aAI key nv cs)
 | .tup cs=>.tup (aAI key nv cs)
 | .slc cs n f=>.slc (aAI key nv cs) n f
 | .fn f a b=>.fn f (aAI key nv a) (aAI key nv b)
 | x=>x
def aAI (key nv:Nat):List SV→List SV
 | []=>[]
 | x :: xs=>reRow key nv x :: aAI key nv xs
end
mutual
def rowIs (key j:Nat):SV→Bool
 | .row k j'=>if Nat.beq k key then Nat.beq j' j else true
 | .ptr cs=>aHy key j cs
 | .agg cs=>aHy key j cs
 | .tup cs=>aHy key j cs
 | .slc cs _ _=>aHy key j cs
 | .fn _ a b=>aHy key j a && aHy key j b
 | _=>true
def aHy (key j:Nat):List SV→Bool
 | []=>true
 | x :: xs=>rowIs key j x && aHy key j xs
end
section
variable {ρ:bW} {ids:jI} {key j nv:Nat} (hl:vH (ρ nv)=vH (ρ j))
include hl
mutual
theorem aXQ:∀ (x:SV),rowIs key j x=true→aL ρ ids (reRow key nv x)=aL ρ ids x
 | .row k j',h=>by
  simp only [rowIs] at h
  simp only [reRow]
  split at h
  ·rename_i hk
   rw [if_pos hk]
   simp only [aL]
   rw [hl,Nat.eq_of_beq_eq_true h]
  ·rename_i hk
   rw [if_neg hk]
 | .ptr cs,h=>by simp only [rowIs] at h; simp only [reRow,aL]; rw [aAR cs h]
 | .agg cs,h=>by simp only [rowIs] at h; simp only [reRow,aL]; rw [aAR cs h]
 | .tup cs,h=>by simp only [rowIs] at h; simp only [reRow,aL]; rw [aAR cs h]
 | .slc cs n f,h=>by simp only [rowIs] at h; simp only [reRow,aL]; rw [aAR cs h]
 | .fn f a b,h=>by
  simp only [rowIs,Bool.and_eq_true] at h
  simp only [reRow,aL]
  rw [aAR a h.1,aAR b h.2]
 | .var _,_ | .len _,_ | .int _ _,_ | .bool _,_ | .str _,_ | .nilp,_ | .nils,_ | .nilf,_ | .nilm,_ | .und,_ | .any,_ | .ref _ _,_ | .elt _ _ _,_ | .mp _,_ | .it _,_=>by simp only [reRow]
theorem aAR:∀ (x:List SV),aHy key j x=true→bQ ρ ids (aAI key nv x)=bQ ρ ids x
 | [],_=>by have _:=hl; simp only [aAI]
 | x :: xs,h=>by
  simp only [aHy,Bool.and_eq_true] at h
  simp only [aAI,bQ]
  rw [aXQ x h.1,aAR xs h.2]
end
end
def aTC (key j nv:Nat):List (Nat×SV)→Option (List (Nat×SV))
 | []=>some []
 | p :: l=>match rowIs key j p.2 with
  | true=>(aTC key j nv l).bind fun l'=>some ((p.1,reRow key nv p.2) :: l')
  | false=>aTC key j nv l
theorem aWw {ρ:bW} {ids:jI} {key j nv:Nat} (hl:vH (ρ nv)=vH (ρ j)):∀ {l l':List (Nat×SV)},aTC key j nv l=some l'→(l.all fun p=>rowIs key j p.2)=true →
  ∀ k,(match lk l' k with | some x=>aL ρ ids x | none=>AV.any)=(match lk l k with | some x=>aL ρ ids x | none=>AV.any)
 | [],l',h,_,k=>by cases h; rfl
 | p :: l,l',h,ha,k=>by
  simp only [List.all_cons,Bool.and_eq_true] at ha
  simp only [aTC,ha.1] at h
  obtain ⟨l2,h1,h2⟩:=aM h
  cases h2
  have ih:=aWw (ids:=ids) hl h1 ha.2 k
  unfold lk
  by_cases e:k=p.1
  ·subst e
   rw [eB,if_pos rfl,if_pos rfl]
   exact aXQ hl p.2 ha.1
  ·rw [fN e]
   exact ih
def allRow (key j:Nat):List (Nat×SV)→Bool
 | []=>true
 | p :: l=>rowIs key j p.2 && allRow key j l
theorem aTH {key j:Nat}:∀ {l:List (Nat×SV)},allRow key j l=true→(l.all fun p=>rowIs key j p.2)=true
 | [],_=>rfl
 | p :: l,h=>by
  simp only [allRow,Bool.and_eq_true] at h
  simp only [List.all_cons,h.1,aTH h.2,Bool.and_self]

def aTB (key j nv:Nat):List (Nat×OB)→List (Nat×OB)
 | []=>[]
 | (k,.cells e sz cs fz) :: l=>(match aHy key j cs with
  | true=>(k,.cells e sz (aAI key nv cs) fz)
  | false=>(k,.cells e sz cs fz)) :: aTB key j nv l
 | p :: l=>p :: aTB key j nv l
theorem aSP (key nv:Nat):∀ cs:List SV,(aAI key nv cs).length=cs.length
 | []=>by simp only [aAI]
 | _ :: cs=>by simp only [aAI,List.length_cons,aSP key nv cs]
theorem aUL {ρ:bW} {ids:jI} {key j nv:Nat} (hl:vH (ρ nv)=vH (ρ j)):∀ l:List (Nat×OB),bL (aTB key j nv l) ρ ids=bL l ρ ids
 | []=>by simp only [aTB]
 | (k,.cells e sz cs fz) :: l=>by
  have ih:=aUL (ids:=ids) (key:=key) hl l
  unfold bL at ih
  simp only [aTB]
  split
  ·rename_i h
   have h0:dQ ρ ids (.cells e sz (aAI key nv cs) fz)=dQ ρ ids (.cells e sz cs fz):=by simp only [dQ,aAR hl cs h,aSP]
   simp only [bL,List.map_cons,h0]
   rw [ih]
  ·simp only [bL,List.map_cons,ih]
 | (_,.list _ _ _) :: l | (_,.map _) :: l | (_,.iter _ _) :: l | (_,.glob _ _) :: l=>by
  have ih:=aUL (ids:=ids) (key:=key) hl l
  unfold bL at ih
  simp only [aTB,bL,List.map_cons,ih]

/-! ### stores -/
def aZ5 (T:TT) (ty:Nat) (a y:SV) (st:St) (ρ:bW) (kk:SV→St→bW→Option R):Option R:=match a with
 | .ref key off=>match lk st.sto key with
  | some (.cells e sz cs false)=>match T.lay ty with
   | some (true,n)=>match y with
    | .agg ds=>(match (Nat.beq ds.length n && Nat.ble (off+ds.length) cs.length && st.ok:Bool) with | true=>kk .any { st with sto:=aPX key (.cells e sz (cs.take off++ds++cs.drop (off+ds.length)) false) st.sto } ρ | false=>none)
    | _=>none
   | some (false,_)=>(match (bAJ ρ y && Nat.ble (off+1) cs.length && st.ok:Bool) with | true=>kk .any { st with sto:=aPX key (.cells e sz (cs.take off++[y]++cs.drop (off+1)) false) st.sto } ρ | false=>none)
   | none=>none
  | _=>none
 | .elt key sz i=>match lk st.sto key with
  | some (.list e j none)=>match listOf ρ (.var j),intOf ρ i,T.lay ty with
   | some ⟨τ,l⟩,some n,some (false,_)=>(match (Nat.beq sz 1 && Nat.beq τ.n 1 && !(isP τ) && bAJ ρ y:Bool) with
    | true=>(match frzL (aGp 20 st.sto y) st.sto with
    | sto1=>(match lk sto1 key with
     | some (.list e' j' none)=>(match (Nat.beq e e' && Nat.beq j j' && (st.ok && aJF st.nv st.nk sto1) && allRow key j st.live:Bool) with
      | true=>(aIf 40 (aNu key sto1) ρ τ y).bind fun v=>(aU l n).bind fun _=>(aTC key j st.nv st.live).bind fun live' =>
        kk .any { live:=live',sto:=aTB key j st.nv (aPX key (.list e st.nv none) sto1),nv:=st.nv+1,nk:=st.nk } (vI ρ st.nv [⟨.list false τ,l.set n.toNat v⟩])
      | false=>none)
     | _=>none))
    | false=>none)
   | _,_,_=>none
  | _=>none
 | _=>none

theorem bB2 (hT:eG P T) {o:Oper} {ty:Nat} {ao yo:Operand} {a y:SV} {st:St} {ρ:bW} {ids:jI} {kk:SV→St→bW→Option R} {r:R} (ho:o.op=.store ty ao yo) (_hne:∀ k,yo=.tmp k→ao≠.tmp k)
  (ha:hP st.live ao=some a) (hy:hP st.live yo=some y) (h:aZ5 T ty a y st ρ kk=some r):HOk P o st ρ ids kk r:=by
 unfold aZ5 at h
 split at h
 ·rename_i key off
  split at h
  ·rename_i e sz cs hk
   have fin:∀ (ds:List SV),(match T.lay ty with | some (true,n)=>(match ev (eA st ρ ids) yo with | .agg ds=>if Nat.beq ds.length n then some ds else none | _=>none) | some (false,_)=>(if (ev (eA st ρ ids) yo).scalar then some [ev (eA st ρ ids) yo] else none) | none=>none)=some (bQ ρ ids ds) →
     Nat.ble (off+ds.length) cs.length=true→st.ok=true→kk .any { st with sto:=aPX key (.cells e sz (cs.take off++ds++cs.drop (off+ds.length)) false) st.sto } ρ=some r→HOk P o st ρ ids kk r:=by
    intro ds hl hb hok h
    obtain ⟨h1,h2,_⟩:=wI (ρ:=ρ) (ids:=ids) (o':=.cells e sz (cs.take off++ds++cs.drop (off+ds.length)) false) hk
    simp only [dQ,Bool.false_eq_true,if_false] at h1
    refine ⟨_,aEc (id:=ids key) (off:=off) (j:=aNS key st.sto) hT ho (by rw [bB ha]; simp only [aL]) h1 hl (by rw [fE,fE]; simpa using hb),?_⟩
    rintro av s' ⟨rfl,rfl⟩
    refine ⟨_,_,_,ids,h,by simp only [aL],?_,rfl,fun key' ob q1 q2=>rfl,fun _ _=>rfl,Nat.le_refl _⟩
    simp only
    rw [← h2]
    simp only [dQ,Bool.false_eq_true,if_false]
    simp only [cH,List.map_append,List.map_take,List.map_drop,List.length_map]
   split at h
   ·rename_i n hl
    split at h
    ·rename_i ds
     split at h
     ·rename_i hb
      simp only [Bool.and_eq_true] at hb
      exact fin ds (by rw [hl,bB hy]; simp only [aL,fE,hb.1.1,if_true]) hb.1.2 hb.2 h
     ·cases h
    ·cases h
   ·rename_i n hl
    split at h
    ·rename_i hb
     simp only [Bool.and_eq_true] at hb
     exact fin [y] (by rw [hl,bB hy]; simp only [bQ,aPU hb.1.1,if_true]) hb.1.2 hb.2 h
    ·cases h
   ·cases h
  ·cases h
 ·rename_i key sz i
  split at h
  ·rename_i e j hk
   split at h
   ·rename_i τ l n m hl hn hlay
    split at h
    ·rename_i hb
     simp only [Bool.and_eq_true,Bool.not_eq_true'] at hb
     obtain ⟨⟨⟨hsz,hτ⟩,hp⟩,hsc⟩:=hb
     simp only at h
     split at h
     ·rename_i e' j' hk1
      split at h
      ·rename_i hb2
       simp only [Bool.and_eq_true] at hb2
       obtain ⟨⟨⟨he,hj⟩,hok,hs1⟩,hall⟩:=hb2
       have he':=Nat.eq_of_beq_eq_true he
       have hj':=Nat.eq_of_beq_eq_true hj
       subst he'; subst hj'
       simp only [St.ok,Bool.and_eq_true] at hok
       obtain ⟨v,hv,h⟩:=aM h
       obtain ⟨u,hu,h⟩:=aM h
       obtain ⟨live',hlive',h⟩:=aM h
       have hd:∃ f,ρ j=⟨.list f τ,l⟩:=by
        unfold listOf at hl
        simp only at hl
        split at hl
        ·rename_i f' e' l' hd; cases hl; exact ⟨_,hd⟩
        ·cases hl
       obtain ⟨f,hd⟩:=hd
       have hτ1:=Nat.eq_of_beq_eq_true hτ
       have hsz1:=Nat.eq_of_beq_eq_true hsz
       have hcell:∀ x:τ.D,τ.cells x=[τ.av x]:=fun x=>Ty.cells_scalar τ x (fun a b e=>by rw [e] at hp; cases hp) (fun a e=>by rw [e] at hp; cases hp)
       have hflat:∀ l:List τ.D,l.flatMap τ.cells=l.map τ.av:=fun l=>by
        rw [← bCU τ.av l]; congr 1; funext x; exact hcell x
       have hm:m=1:=(TT.lay_inv hlay).choose_spec.2.2.2 rfl
       subst hm
       have hview:=aEr (ids:=ids) _ _ _ _ hv
       obtain ⟨h1,h2,h3⟩:=wI (ρ:=ρ) (ids:=ids) (o':=.list e j none) hk1
       simp only [dQ,hd,aCf,hτ1,hflat] at h1
       have hsub:∀ (ob:Nat×Ob),(bL (aNu key (frzL (aGp 20 st.sto y) st.sto)) ρ ids).Sublist ((bL (frzL (aGp 20 st.sto y) st.sto) ρ ids).set (aNS key (frzL (aGp 20 st.sto y) st.sto)) ob):=by
        intro ob
        rw [← h3]
        have:∀ (s:aN) (j:Nat),(s.eraseIdx j).Sublist (s.set j ob):=by
         intro s
         induction s with
         | nil=>intro j; simp
         | cons p s ih =>
          intro j
          cases j with
          | zero=>simp
          | succ j=>simp only [List.eraseIdx_cons_succ,List.set_cons_succ]; exact (ih j).cons_cons _
        exact this _ _
       have hshift:iQ (fun _=>.any) (bL st.sto ρ ids) (fun _=>.any) (bL (frzL (aGp 20 st.sto y) st.sto) ρ ids):=by
        have:=iQ.frzL (t:=fun _=>.any) (ρ:=ρ) (ids:=ids) (aGp 20 st.sto y) st.sto []
        simpa using this
       refine ⟨_,sP.shift hshift (aVd (g:=τ.av) (l:=l) (k:=n) (v:=u) (u:=v) (y':=aL ρ ids y) (j:=aNS key (frzL (aGp 20 st.sto y) st.sto)) hT hu ho hlay
        (by rw [bB ha]; simp only [aL,hn,hsz1,Nat.mul_one]) (bB hy) (hview.mono (hsub _)) (aPU hsc) h1),?_⟩
       rintro av s' ⟨rfl,rfl⟩
       have hagR:=jC ρ st.nv [⟨.list false τ,l.set n.toNat v⟩]
       have hnew:vI ρ st.nv [⟨.list false τ,l.set n.toNat v⟩] st.nv=⟨.list false τ,l.set n.toNat v⟩:=by
        have:=aB3 ρ st.nv [⟨.list false τ,l.set n.toNat v⟩] 0 _ rfl
        rwa [Nat.add_zero] at this
       refine ⟨_,_,_,ids,h,by simp only [aL],?_,?_,fun key' ob q1 q2=>?_,fun _ _=>rfl,Nat.le_refl _⟩
       ·have hdl:vH (vI ρ st.nv [⟨.list false τ,l.set n.toNat v⟩] st.nv)=vH (vI ρ st.nv [⟨.list false τ,l.set n.toNat v⟩] j):=by
         rw [hnew,hagR j (by have:=(sE hs1 hk1).2; simp only [OB.ok] at this; exact mP this),hd]
         simp [vH]
        have hall2:bL (frzL (aGp 20 st.sto y) st.sto) (vI ρ st.nv [⟨.list false τ,l.set n.toNat v⟩]) ids=bL (frzL (aGp 20 st.sto y) st.sto) ρ ids:=pG hagR (fun _ _=>rfl) hs1
        obtain ⟨g1,g2,g3⟩:=wI (ρ:=vI ρ st.nv [⟨.list false τ,l.set n.toNat v⟩]) (ids:=ids) (o':=.list e st.nv none) hk1
        simp only
        rw [aUL hdl,← g2,hall2]
        simp only [dQ,hnew,aCf,hτ1,hflat]
       ·have e0:=rB (st:=st) (i:=ids) (i':=ids) hagR (fun _ _=>rfl) hok.1
        rw [← e0]
        funext k
        refine aWw (ids:=ids) (key:=key) (j:=j) (nv:=st.nv) ?_ hlive' (aTH hall) k
        rw [hnew,hagR j (by have:=(sE hs1 hk1).2; simp only [OB.ok] at this; exact mP this),hd]
        simp [vH]
       ·obtain ⟨g1,g2⟩:=sE hok.2 q1
        rw [aAz hagR (fun _ _=>rfl) g2]
      ·cases h
     ·cases h
    ·cases h
   ·cases h
  ·cases h
 ·cases h
end
end Go.Sx

/- The executor, part 8: rows that grow, rows that are made. -/
namespace Go.Sx
open Go Go.Am

section
variable {P:Program} {T:TT} {R:Type}

def aMG:Operand→Option Nat
 | .tmp k=>some k
 | _=>none

def aRv (T:TT) (ty:Nat) (n:Nat):Option (Nat×Nat):=match lk T.kd ty with
 | some (.slice e)=>match lk T.sz e,lk T.zero e,lk T.by' e with
  | some sz,some zs,some by'=>if Nat.beq sz n && Nat.beq zs.length sz && zs.all Value.oneCell' && Nat.blt 0 by' then some (e,by') else none
  | _,_,_=>none
 | _=>none
theorem aH6 {ty n e by':Nat} (h:aRv T ty n=some (e,by')):lk T.kd ty=some (.slice e)∧lk T.sz e=some n∧(∃ zs,lk T.zero e=some zs∧Nat.beq zs.length n=true∧zs.all Value.oneCell'=true)∧lk T.by' e=some by'∧Nat.blt 0 by'=true:=by
 unfold aRv at h
 split at h
 ·rename_i e0 hk
  split at h
  ·rename_i sz zs by0 h1 h2 h3
   split at h
   ·rename_i hb
    cases h
    simp only [Bool.and_eq_true] at hb
    have:=Nat.eq_of_beq_eq_true hb.1.1.1
    subst this
    exact ⟨hk,h1,⟨zs,h2,hb.1.1.2,hb.1.2⟩,h3,hb.2⟩
   ·cases h
  ·cases h
 ·cases h

def aTR (st:St) (ρ:bW) (τ:Ty) (y:SV):Option (List (Nat×OB)×List τ.D) :=
 (fun sto1=>(aIf 40 sto1 ρ (.list false τ) y).bind fun d=>some (sto1,d)) (frzL (aGp 20 st.sto y) st.sto)

def bEF (T:TT) (ty:Nat) (key j:Nat) (yo:Operand) (y:SV) (st:St) (ρ:bW) (kk:SV→St→bW→Option R):Option R :=
 match listOf ρ (.var j) with
 | none=>none
 | some ⟨τ,l⟩=>match aRv T ty τ.n,aMG yo with
  | some (e,by'),some _=>(aTR st ρ τ y).bind fun p=>match lk p.1 key with
   | some (.list e' j' fz)=>(match (Nat.beq e e' && Nat.beq j j':Bool) with
    | true=>(aAt by' l p.2).bind fun v=>(match (aJF st.nv st.nk p.1:Bool) with | true=>aPh st ρ (aNu key p.1) 1 [⟨.list false τ,v⟩] (.list e st.nv fz) (.row st.nk st.nv) kk | false=>none)
    | false=>none)
   | _=>none
  | _,_=>none

theorem aZ9 {ρ:bW} {j:Nat} {τ:Ty} {l:List τ.D} (hl:listOf ρ (.var j)=some ⟨τ,l⟩):∃ f,ρ j=⟨.list f τ,l⟩:=by
 unfold listOf at hl
 simp only at hl
 split at hl
 ·rename_i f' e' l' hd; cases hl; exact ⟨_,hd⟩
 ·cases hl

theorem aQf {st:St} {ρ:bW} {ids:jI} {τ:Ty} {y:SV} {p} (h:aTR st ρ τ y=some p) :
  (∀ t,iQ t (bL st.sto ρ ids) t (bL p.1 ρ ids))∧eM (bL p.1 ρ ids) (aL ρ ids y) (.slc (p.2.flatMap τ.cells) p.2.length false):=by
 unfold aTR at h
 obtain ⟨d,h1,h2⟩:=aM h
 cases h2
 refine ⟨fun t=>?_,aEr _ _ _ _ h1⟩
 have:=iQ.frzL (t:=t) (ρ:=ρ) (ids:=ids) (aGp 20 st.sto y) st.sto []
 simpa using this

theorem aQL {t:mA} {x:Operand} {k:Nat} {v:AV} (h:x≠.tmp k):ev (t.put (some k) v) x=ev t x:=by
 cases x with
 | tmp j =>
  have:j≠k:=fun e=>h (by rw [e])
  simp only [ev,mA.put,fN this]
  rfl
 | const v=>rfl
 | func f=>rfl
 | global g=>rfl
theorem aDo {t:mA} {k:Nat} {v:AV}:ev (t.put (some k) v) (.tmp k)=v:=by simp only [ev,mA.put,eB,if_true]

theorem aY3 {nv:Nat} {ρ ρ':bW} {n:Nat} {fz:Option Nat} (hr:bW.agree nv ρ ρ') {e j nk:Nat} (h:OB.ok nv nk (.list e j fz)=true):aCf ρ' n fz=aCf ρ n fz:=by
 cases fz with
 | none=>rfl
 | some z =>
  simp only [OB.ok,Bool.and_eq_true] at h
  simp only [aCf]
  rw [hr z (mP h.2)]

theorem lM (ρ:bW) (nv:Nat) (d:Dyn):vI ρ nv [d] nv=d:=by
 have:=aB3 ρ nv [d] 0 _ rfl
 rwa [Nat.add_zero] at this

theorem bDG (hT:eG P T) {o:Oper} {ty:Nat} {xo yo:Operand} {key j:Nat} {y:SV} {st:St} {ρ:bW} {ids:jI} {kk:SV→St→bW→Option R} {r:R} (ho:o.op=.call ⟨.builtin .append,#[xo,yo],#[ty,ty]⟩)
  (hne:∀ k,yo=.tmp k→xo≠.tmp k) (hx:hP st.live xo=some (.row key j)) (hy:hP st.live yo=some y) (h:bEF T ty key j yo y st ρ kk=some r):HOk P o st ρ ids kk r:=by
 unfold bEF at h
 split at h
 ·cases h
 ·rename_i τ l hl
  split at h
  ·rename_i e by' ky he hky
   obtain ⟨hkd,hsz,⟨zs,hz,hzl,hz1⟩,hby,hb1⟩:=aH6 he
   obtain ⟨p,hp,h⟩:=aM h
   obtain ⟨hshift,hview⟩:=aQf (ids:=ids) hp
   split at h
   ·rename_i e' j' fz hk
    split at h
    ·rename_i hb
     simp only [Bool.and_eq_true] at hb
     have e1:=Nat.eq_of_beq_eq_true hb.1
     have e2:=Nat.eq_of_beq_eq_true hb.2
     subst e1; subst e2
     obtain ⟨v,hv,h⟩:=aM h
     split at h
     ·rename_i hpok
      obtain ⟨f,hd⟩:=aZ9 hl
      have hyo:yo=.tmp ky:=by
       cases yo <;> simp [aMG] at hky
       rw [hky]
      obtain ⟨h1,h2,h3⟩:=wI (ρ:=ρ) (ids:=ids) (o':=.list e j fz) hk
      simp only [dQ,hd] at h1
      have hop:=aYe (P:=P) (t:=(eA st ρ ids).put (some ky) (.slc (p.2.flatMap τ.cells) p.2.length false)) (s:=bL p.1 ρ ids) (g:=τ.cells) (l:=l) (d:=p.2) (v:=v) (f:=false) (id:=ids key) (j:=aNS key p.1) (fz:=aCf ρ τ.n fz)
       hT (Ty.cells_len τ) hv ho hkd hsz hz hzl hby hb1 (by rw [aQL (hne ky hyo),bB hx]; simp only [aL,hd,vH]) (by rw [hyo,aDo]) h1
      refine aC1 h (sP.views (s':=bL p.1 ρ ids) (t':=(eA st ρ ids).put (some ky) (.slc (p.2.flatMap τ.cells) p.2.length false)) (fun w m i a hr hop'=>?_) hop) ?_
      ·obtain ⟨m',i',g1,g2,g3⟩:=hshift (fun _=>.any) w m i a hr (fun _=>trivial)
       refine ⟨m',i',g1,fun k hkm=>?_,g3⟩
       simp only [mA.put]
       by_cases ek:k=ky
       ·subst ek
        rw [eB,if_pos rfl]
        refine hview w m' i' _ g1 (VR.mono g3.mu g3.io _ _ ?_)
        have:=hop' k hkm
        rw [show eA st ρ ids k=aL ρ ids y from by rw [← bB (ids:=ids) hy,hyo]; rfl] at this
        exact this
       ·rw [fN ek]
        exact VR.mono g3.mu g3.io _ _ (hop' k hkm)
      ·rintro av s' ⟨id',rfl,rfl⟩
       obtain ⟨_,hobok⟩:=sE hpok hk
       have ef:=aY3 (n:=τ.n) (jC ρ st.nv [⟨.list false τ,v⟩]) hobok
       refine ⟨id',by simp only [aL,lS,lM,vH],?_⟩
       rw [h3]
       simp only [dQ,lM]
       rw [ef]
     ·cases h
    ·cases h
   ·cases h
  ·cases h

def bCA (T:TT) (tys:List (Nat×Ty)) (ty:Nat) (xo yo:Operand) (y:SV) (st:St) (ρ:bW) (kk:SV→St→bW→Option R):Option R :=
 match lk T.kd ty with
 | some (.slice e0)=>match lk tys e0 with
  | none=>none
  | some τ=>match aRv T ty τ.n,aMG xo,aMG yo with
   | some (e,by'),some _,some _=>(aTR st ρ τ y).bind fun p=>(aAt by' ([]:List τ.D) p.2).bind fun v=>aPh st ρ p.1 1 [⟨.list false τ,v⟩] (.list e st.nv none) (.row st.nk st.nv) kk
   | _,_,_=>none
 | _=>none

theorem bDO (hT:eG P T) {tys:List (Nat×Ty)} {o:Oper} {ty:Nat} {xo yo:Operand} {y:SV} {st:St} {ρ:bW} {ids:jI} {kk:SV→St→bW→Option R} {r:R} (ho:o.op=.call ⟨.builtin .append,#[xo,yo],#[ty,ty]⟩)
  (hne:∀ k,yo=.tmp k→xo≠.tmp k) (hx:hP st.live xo=some .nils) (hy:hP st.live yo=some y) (h:bCA T tys ty xo yo y st ρ kk=some r):HOk P o st ρ ids kk r:=by
 unfold bCA at h
 split at h
 ·rename_i e0 hk0
  split at h
  ·cases h
  ·rename_i τ hτ
   split at h
   ·rename_i e by' kx ky he hkx hky
    obtain ⟨hkd,hsz,⟨zs,hz,hzl,hz1⟩,hby,hb1⟩:=aH6 he
    obtain ⟨p,hp,h⟩:=aM h
    obtain ⟨hshift,hview⟩:=aQf (ids:=ids) hp
    obtain ⟨v,hv,h⟩:=aM h
    have hyo:yo=.tmp ky:=by
     cases yo <;> simp [aMG] at hky
     rw [hky]
    have hxo:xo=.tmp kx:=by
     cases xo <;> simp [aMG] at hkx
     rw [hkx]
    have hkk:kx≠ky:=fun e=>hne ky hyo (by rw [hxo,e])
    refine aC1 (ids:=ids) (Rr:=fun av s'=>∃ id',av=.row id' v.length∧s'=(id',.row e τ.n (v.flatMap τ.cells) 0) :: bL p.1 ρ ids) h ?_ ?_
    ·intro a w m i hr hop' K Q hK
     obtain ⟨m',i',g1,_,g3⟩:=hshift (fun _=>.any) w m i a hr (fun _=>trivial)
     obtain ⟨id,i2,q1,q2,q3,q4⟩:=g1.adopt e τ.n
     have hop:=aYe (P:=P) (t:=((eA st ρ ids).put (some kx) (.row id 0)).put (some ky) (.slc (p.2.flatMap τ.cells) p.2.length false)) (s:=(id,.row e τ.n [] 0) :: bL p.1 ρ ids) (g:=τ.cells) (l:=([]:List τ.D)) (d:=p.2) (v:=v) (f:=false) (id:=id) (j:=0) (fz:=0)
      hT (Ty.cells_len τ) hv ho hkd hsz hz hzl hby hb1 (by rw [aQL (hne ky hyo),hxo,aDo]; rfl) (by rw [hyo,aDo]) rfl
     refine hop a w m' i2 q3 (fun k hkm=>?_) K Q ?_
     ·simp only [mA.put]
      by_cases ek:k=ky
      ·subst ek
       rw [eB,if_pos rfl]
       refine VR.mono (Mu.le_refl _) q4.io _ _ (hview w m' i' _ g1 (VR.mono g3.mu g3.io _ _ ?_))
       have:=hop' k hkm
       rw [show eA st ρ ids k=aL ρ ids y from by rw [← bB (ids:=ids) hy,hyo]; rfl] at this
       exact this
      ·rw [fN ek]
       by_cases ek2:k=kx
       ·subst ek2
        rw [eB,if_pos rfl]
        simp only [Bool.false_eq_true,if_false]
        have:=hop' k hkm
        rw [show eA st ρ ids k=aL ρ ids .nils from by rw [← bB (ids:=ids) hx,hxo]; rfl] at this
        exact .inl ⟨q2,rfl,this⟩
       ·rw [fN ek2]
        simp only [Bool.false_eq_true,if_false]
        exact VR.mono (Mu.le_trans g3.mu q4.mu) (Io.le_trans g3.io q4.io) _ _ (hop' k hkm)
     ·rintro u w' av s' m'' i'' ⟨id',rfl,rfl⟩ k1 k2 k3
      exact hK u w' _ _ m'' i'' ⟨id',rfl,rfl⟩ k1 k2 ((g3.trans q4).trans k3)
    ·rintro av s' ⟨id',rfl,rfl⟩
     refine ⟨id',by simp only [aL,lS,lM,vH],?_⟩
     simp only [dQ,lM,aCf]
   ·cases h
 ·cases h

def aZ4 (T:TT) (tys:List (Nat×Ty)) (ty:Nat) (st:St) (ρ:bW) (kk:SV→St→bW→Option R):Option R :=
 match lk T.kd ty with
 | some (.slice e0)=>match lk tys e0 with
  | none=>none
  | some τ=>match aRv T ty τ.n with
   | some (e,_)=>aPh st ρ st.sto 1 [⟨.list false τ,([]:List τ.D)⟩] (.list e st.nv none) (.row st.nk st.nv) kk
   | none=>none
 | _=>none
theorem bB0 (hT:eG P T) {tys:List (Nat×Ty)} {o:Oper} {ty:Nat} {ps:Array (Nat×Operand)} {st:St} {ρ:bW} {ids:jI} {kk:SV→St→bW→Option R} {r:R} (ho:o.op=.buildSlice ty 0 ps) (hps:ps.toList=[])
  (h:aZ4 T tys ty st ρ kk=some r):HOk P o st ρ ids kk r:=by
 unfold aZ4 at h
 split at h
 ·rename_i e0 hk0
  split at h
  ·cases h
  ·rename_i τ hτ
   split at h
   ·rename_i e by' he
    obtain ⟨hkd,hsz,⟨zs,hz,hzl,hz1⟩,hby,hb1⟩:=aH6 he
    refine aC1 (ids:=ids) (Rr:=fun av s'=>∃ id',av=.row id' 0∧s'=(id',.row e τ.n [] 0) :: bL st.sto ρ ids) h ?_ ?_
    ·refine aPB (cs:=[]) hT ho hkd hz hsz ?_ ?_ ?_ WL.nil
     ·rw [Nat.zero_mul,hzl,hz1]; rfl
     ·unfold aHc; rw [hps,Nat.zero_mul]; rfl
     ·rw [Nat.zero_mul]; rfl
    ·rintro av s' ⟨id',rfl,rfl⟩
     refine ⟨id',by simp only [aL,lS,lM,vH]; rfl,?_⟩
     simp only [dQ,lM,aCf]
     rfl
   ·cases h
 ·cases h

def aWE (T:TT) (tys:List (Nat×Ty)) (ty:Nat) (x:SV) (st:St) (ρ:bW) (kk:SV→St→bW→Option R):Option R :=
 match lk T.kd ty with
 | some (.slice e0)=>match lk tys e0,x with
  | some .tree,.var j=>match ρ j with
   | ⟨.tree,t⟩=>match aRv T ty 1 with
    | some (e,_)=>aPh st ρ st.sto 1 [⟨.list false .tree,([t]:List Tr)⟩] (.list e st.nv none) (.row st.nk st.nv) kk
    | none=>none
   | _=>none
  | _,_=>none
 | _=>none
theorem bAE (hT:eG P T) {tys:List (Nat×Ty)} {o:Oper} {ty:Nat} {ps:Array (Nat×Operand)} {y:Operand} {x:SV} {st:St} {ρ:bW} {ids:jI} {kk:SV→St→bW→Option R} {r:R} (ho:o.op=.buildSlice ty 1 ps) (hps:ps.toList=[(0,y)])
  (hx:hP st.live y=some x) (h:aWE T tys ty x st ρ kk=some r):HOk P o st ρ ids kk r:=by
 unfold aWE at h
 split at h
 ·rename_i e0 hk0
  split at h
  ·rename_i j hτ
   split at h
   ·rename_i t hj
    split at h
    ·rename_i e by' he
     obtain ⟨hkd,hsz,⟨zs,hz,hzl,hz1⟩,hby,hb1⟩:=aH6 he
     have hv:ev (eA st ρ ids) y=.tree t:=by
      rw [bB hx]
      simp only [aL,hj]
      rfl
     refine aC1 (ids:=ids) (Rr:=fun av s'=>∃ id',av=.row id' 1∧s'=(id',.row e 1 [.tree t] 0) :: bL st.sto ρ ids) h ?_ ?_
     ·refine aPB (cs:=[.tree t]) hT ho hkd hz hsz ?_ ?_ rfl (WL.refl _)
      ·rw [Nat.one_mul,hzl,hz1]; rfl
      ·unfold aHc
       rw [hps,List.map_cons,List.map_nil,hv]
       rfl
     ·rintro av s' ⟨id',rfl,rfl⟩
      refine ⟨id',by simp only [aL,lS,lM,vH]; rfl,?_⟩
      simp only [dQ,lM,aCf]
      rfl
    ·cases h
   ·cases h
  ·cases h
 ·cases h

def bEi (T:TT) (tys:List (Nat×Ty)) (ty:Nat) (xo yo:Operand) (x y:SV) (st:St) (ρ:bW) (kk:SV→St→bW→Option R):Option R :=
 match lk T.kd ty with
 | some (.slice e0)=>match lk tys e0 with
  | none=>none
  | some τ=>match aRv T ty τ.n,aMG xo,aMG yo with
   | some (_e,by'),some _,some _=>(aTR st ρ τ y).bind fun p=>(aIf 40 p.1 ρ (.list true τ) x).bind fun l=>(aAt by' l p.2).bind fun v =>
    (match (st.ok && aJF st.nv st.nk p.1:Bool) with | true=>kk (.var st.nv) { live:=st.live,sto:=p.1,nv:=st.nv+1,nk:=st.nk } (vI ρ st.nv [⟨.list false τ,v⟩]) | false=>none)
   | _,_,_=>none
 | _=>none

theorem bCi {t:mA} {s:aN} {α:Type} (h:eG P T) {o:Oper} {x y:Operand} {ty e by' sz:Nat} {g:α→List AV} (hg:∀ x,(g x).length=sz) {l d v:List α} {f:Bool} {zs:List Value} (hv:aAt by' l d=some v)
  (ho:o.op=.call ⟨.builtin .append,#[x,y],#[ty,ty]⟩) (hk:lk T.kd ty=some (.slice e)) (hs:lk T.sz e=some sz) (hz:lk T.zero e=some zs) (hzl:(Nat.beq zs.length sz && zs.all Value.oneCell')=true) (hby:lk T.by' e=some by') (hb1:Nat.blt 0 by'=true)
  (hx:ev t x=.slc (l.flatMap g) l.length true) (hy:ev t y=.slc (d.flatMap g) d.length f) :
  sP P o t s (fun z s'=>z=.slc (v.flatMap g) v.length false∧s'=s):=by
 obtain ⟨hb,rfl⟩:=aV6 hv
 rw [List.flatMap_append,List.length_append]
 exact aTo h ho hk hs hz hzl hby hx hy (aC5 hg l) (aC5 hg d) hb hb1

theorem bCL (hT:eG P T) {tys:List (Nat×Ty)} {o:Oper} {ty:Nat} {xo yo:Operand} {x y:SV} {st:St} {ρ:bW} {ids:jI} {kk:SV→St→bW→Option R} {r:R} (ho:o.op=.call ⟨.builtin .append,#[xo,yo],#[ty,ty]⟩)
  (hne:∀ k,yo=.tmp k→xo≠.tmp k) (hx:hP st.live xo=some x) (hy:hP st.live yo=some y) (h:bEi T tys ty xo yo x y st ρ kk=some r):HOk P o st ρ ids kk r:=by
 unfold bEi at h
 split at h
 ·rename_i e0 hk0
  split at h
  ·cases h
  ·rename_i τ hτ
   split at h
   ·rename_i e by' kx ky he hkx hky
    obtain ⟨hkd,hsz,⟨zs,hz,hzl,hz1⟩,hby,hb1⟩:=aH6 he
    obtain ⟨p,hp,h⟩:=aM h
    obtain ⟨hshift,hview⟩:=aQf (ids:=ids) hp
    obtain ⟨l,hlx,h⟩:=aM h
    have hviewx:=aEr (ids:=ids) _ _ _ _ hlx
    obtain ⟨v,hv,h⟩:=aM h
    split at h
    ·rename_i hb
     simp only [Bool.and_eq_true,St.ok] at hb
     have hyo:yo=.tmp ky:=by
      cases yo <;> simp [aMG] at hky
      rw [hky]
     have hxo:xo=.tmp kx:=by
      cases xo <;> simp [aMG] at hkx
      rw [hkx]
     have hkk:kx≠ky:=fun e=>hne ky hyo (by rw [hxo,e])
     have hop:=bCi (P:=P) (t:=((eA st ρ ids).put (some kx) (.slc (l.flatMap τ.cells) l.length true)).put (some ky) (.slc (p.2.flatMap τ.cells) p.2.length false)) (s:=bL p.1 ρ ids) (g:=τ.cells) (l:=l) (d:=p.2) (v:=v) (f:=false)
      hT (Ty.cells_len τ) hv ho hkd hsz hz (by rw [hzl,hz1]; rfl) hby hb1 (by rw [aQL (hne ky hyo),hxo,aDo]) (by rw [hyo,aDo])
     refine ⟨_,sP.views (s':=bL p.1 ρ ids) (t':=((eA st ρ ids).put (some kx) (.slc (l.flatMap τ.cells) l.length true)).put (some ky) (.slc (p.2.flatMap τ.cells) p.2.length false)) (fun w m i a hr hop'=>?_) hop,?_⟩
     ·obtain ⟨m',i',g1,g2,g3⟩:=hshift (fun _=>.any) w m i a hr (fun _=>trivial)
      refine ⟨m',i',g1,fun k hkm=>?_,g3⟩
      simp only [mA.put]
      by_cases ek:k=ky
      ·subst ek
       rw [eB,if_pos rfl]
       refine hview w m' i' _ g1 (VR.mono g3.mu g3.io _ _ ?_)
       have:=hop' k hkm
       rw [show eA st ρ ids k=aL ρ ids y from by rw [← bB (ids:=ids) hy,hyo]; rfl] at this
       exact this
      ·rw [fN ek]
       by_cases ek2:k=kx
       ·subst ek2
        rw [eB,if_pos rfl]
        simp only [Bool.false_eq_true,if_false]
        refine hviewx w m' i' _ g1 (VR.mono g3.mu g3.io _ _ ?_)
        have:=hop' k hkm
        rw [show eA st ρ ids k=aL ρ ids x from by rw [← bB (ids:=ids) hx,hxo]; rfl] at this
        exact this
       ·rw [fN ek2]
        simp only [Bool.false_eq_true,if_false]
        exact VR.mono g3.mu g3.io _ _ (hop' k hkm)
     ·rintro av s' ⟨rfl,rfl⟩
      have hagR:=jC ρ st.nv [⟨.list false τ,v⟩]
      refine ⟨_,_,_,ids,h,by simp only [aL,lM]; rfl,(pG hagR (fun _ _=>rfl) hb.2).symm,rB (st:=st) hagR (fun _ _=>rfl) hb.1.1,fun key ob q1 q2=>?_,fun _ _=>rfl,Nat.le_refl _⟩
      obtain ⟨g1,g2⟩:=sE hb.1.2 q1
      rw [aAz hagR (fun _ _=>rfl) g2]
    ·cases h
   ·cases h
 ·cases h

/-! ### make -/
def bEn (T:TT) (tys:List (Nat×Ty)) (ty:Nat) (x y:SV) (st:St) (ρ:bW) (kk:SV→St→bW→Option R):Option R :=
 match lk T.kd ty with
 | some (.slice e0)=>match lk tys e0 with
  | none=>none
  | some τ=>match aRv T ty τ.n,lk T.zero e0,aH7 ρ x,aH7 ρ y with
   | some (e,by'),some [v],some (_,n),some _=>match SV.beq x y && Nat.beq τ.n 1 && !(isP τ) && v.oneCell' with
    | true=>match bBD τ v with
     | some z=>(mkL by' z n).bind fun l=>aPh st ρ st.sto 1 [⟨.list false τ,l⟩] (.list e st.nv none) (.row st.nk st.nv) kk
     | none=>none
    | false=>none
   | _,_,_,_=>none
 | _=>none

theorem bD1 (hT:eG P T) {tys:List (Nat×Ty)} {o:Oper} {ty:Nat} {xo yo:Operand} {x y:SV} {st:St} {ρ:bW} {ids:jI} {kk:SV→St→bW→Option R} {r:R} (ho:o.op=.makeSlice ty xo yo)
  (hx:hP st.live xo=some x) (hy:hP st.live yo=some y) (h:bEn T tys ty x y st ρ kk=some r):HOk P o st ρ ids kk r:=by
 unfold bEn at h
 split at h
 ·rename_i e0 hk0
  split at h
  ·cases h
  ·rename_i τ hτ
   split at h
   ·rename_i e by' v k n k2 he hz hix hiy
    obtain ⟨hkd,hsz,_,hby,hb1⟩:=aH6 he
    rw [hk0] at hkd
    cases hkd
    split at h
    ·rename_i hb
     simp only [Bool.and_eq_true,Bool.not_eq_true'] at hb
     have hxy:=SV.beq_eq _ _ hb.1.1.1
     subst hxy
     have hτ1:=Nat.eq_of_beq_eq_true hb.1.1.2
     split at h
     ·rename_i z hzt
      obtain ⟨l,hl,h⟩:=aM h
      have hcell:∀ x:τ.D,τ.cells x=[τ.av x]:=fun x=>Ty.cells_scalar τ x (fun a b e=>by rw [e] at hb; cases hb.1.2) (fun a e=>by rw [e] at hb; cases hb.1.2)
      have hflat:∀ l:List τ.D,l.flatMap τ.cells=l.map τ.av:=fun l=>by
       rw [← bCU τ.av l]; congr 1; funext x; exact hcell x
      rw [hτ1] at hsz
      refine aC1 h (bFl (g:=τ.av) (z:=z) (r:=l) (l:=n) (k1:=k) (k2:=k) hT hl ho hk0 hsz hz hb.2 hby hb1 (aXN hzt) (by rw [bB hx,kL hix]) (by rw [bB hy,kL hix])) ?_
      rintro av s' ⟨id,rfl,rfl⟩
      refine ⟨id,by simp only [aL,lS,lM,vH],?_⟩
      simp only [dQ,lM,aCf,hflat,hτ1]
     ·cases h
    ·cases h
   ·cases h
 ·cases h

/-! ### texts by runes -/
def gJ (l:List UInt8) (p:Nat):Nat×Nat:=Utf8.decode ⟨l.toArray⟩ p

def bAr (T:TT) (ty:Nat) (x:SV) (st:St) (ρ:bW) (kk:SV→St→bW→Option R):Option R:=match lk T.kd ty,strOf ρ x with
 | some .string,some l=>aPh st ρ st.sto 2 [⟨.str,l⟩,⟨.int .i64,0⟩] (.iter st.nv (st.nv+1)) (.it st.nk) kk
 | _,_=>none
theorem bB6 (hT:eG P T) {o:Oper} {ty:Nat} {xo:Operand} {x:SV} {st:St} {ρ:bW} {ids:jI} {kk:SV→St→bW→Option R} {r:R} (ho:o.op=.range ty xo) (hx:hP st.live xo=some x) (h:bAr T ty x st ρ kk=some r):HOk P o st ρ ids kk r:=by
 unfold bAr at h
 split at h
 ·rename_i l hk hl
  refine aC1 h (bCf hT ho hk (by rw [bB hx,aBn hl])) ?_
  rintro av s' ⟨k,rfl,rfl⟩
  refine ⟨k,by simp only [aL,lS],?_⟩
  have e1:=aB3 ρ st.nv [⟨.str,l⟩,⟨.int .i64,0⟩] 0 _ rfl
  have e2:=aB3 ρ st.nv [⟨.str,l⟩,⟨.int .i64,0⟩] 1 _ rfl
  rw [Nat.add_zero] at e1
  simp only [dQ,e1,e2]
  rfl
 ·cases h

def bDJ (x:SV) (st:St) (ρ:bW) (kk:SV→St→bW→Option R):Option R:=match x with
 | .it key=>match lk st.sto key with
  | some (.iter j p)=>match strOf ρ (.var j),intOf ρ (.var p) with
   | some l,some n=>iteS (decide (n.toNat<l.length))
     (match (st.ok:Bool) with
     | true=>kk (.tup [.bool true,.var st.nv,.var (st.nv+1)]) { live:=st.live,sto:=aPX key (.iter j (st.nv+2)) st.sto,nv:=st.nv+3,nk:=st.nk }
      (vI ρ st.nv [⟨.int .i64,((n.toNat:Nat):Int)⟩,⟨.int .i32,(((gJ l n.toNat).1:Nat):Int)⟩,⟨.int .i64,((n.toNat+(gJ l n.toNat).2:Nat):Int)⟩])
     | false=>none)
     (kk (.tup [.bool false]) st ρ)
   | _,_=>none
  | _=>none
 | _=>none
theorem bCS {o:Oper} {xo:Operand} {x:SV} {st:St} {ρ:bW} {ids:jI} {kk:SV→St→bW→Option R} {r:R} (ho:o.op=.next xo true) (hx:hP st.live xo=some x) (h:bDJ x st ρ kk=some r):HOk P o st ρ ids kk r:=by
 unfold bDJ at h
 split at h
 ·rename_i key
  split at h
  ·rename_i j p hk
   split at h
   ·rename_i l n hl hn
    have hdl:ρ j=⟨.str,l⟩:=by
     simp only [strOf] at hl
     split at hl
     ·rename_i l' hd; cases hl; exact hd
     ·cases hl
    have hdn:∃ k,ρ p=⟨.int k,n⟩:=by
     simp only [intOf] at hn
     split at hn
     ·rename_i k n' hd; cases hn; exact ⟨k,hd⟩
     ·cases hn
    obtain ⟨kp,hdn⟩:=hdn
    have hsz:(⟨l.toArray⟩:ByteArray).size=l.length:=by simp [ByteArray.size]
    obtain ⟨h1,h2,_⟩:=wI (ρ:=ρ) (ids:=ids) (o':=.iter j p) hk
    simp only [dQ,hdl,hdn] at h1
    refine ⟨_,bDV ho (by rw [bB hx]; simp only [aL]) h1,?_⟩
    rintro av s' (⟨hp,rfl,rfl⟩ | ⟨hp,rfl,rfl⟩)
    ·rw [hsz] at hp
     rw [aWH,if_pos (by simpa using hp)] at h
     split at h
     ·rename_i hok
      simp only [St.ok,Bool.and_eq_true] at hok
      have hR:=jC ρ st.nv [⟨.int .i64,((n.toNat:Nat):Int)⟩,⟨.int .i32,(((gJ l n.toNat).1:Nat):Int)⟩,⟨.int .i64,((n.toNat+(gJ l n.toNat).2:Nat):Int)⟩]
      have e0:=aB3 ρ st.nv [⟨.int .i64,((n.toNat:Nat):Int)⟩,⟨.int .i32,(((gJ l n.toNat).1:Nat):Int)⟩,⟨.int .i64,((n.toNat+(gJ l n.toNat).2:Nat):Int)⟩] 0 _ rfl
      have e1:=aB3 ρ st.nv [⟨.int .i64,((n.toNat:Nat):Int)⟩,⟨.int .i32,(((gJ l n.toNat).1:Nat):Int)⟩,⟨.int .i64,((n.toNat+(gJ l n.toNat).2:Nat):Int)⟩] 1 _ rfl
      have e2:=aB3 ρ st.nv [⟨.int .i64,((n.toNat:Nat):Int)⟩,⟨.int .i32,(((gJ l n.toNat).1:Nat):Int)⟩,⟨.int .i64,((n.toNat+(gJ l n.toNat).2:Nat):Int)⟩] 2 _ rfl
      rw [Nat.add_zero] at e0
      have hj:=(sE hok.2 hk).2
      simp only [OB.ok,Bool.and_eq_true] at hj
      refine ⟨_,_,_,ids,h,?_,?_,rB (st:=st) hR (fun _ _=>rfl) hok.1,fun key' ob q1 q2=>?_,fun _ _=>rfl,Nat.le_refl _⟩
      ·simp only [aL,bQ,e0,e1]
       rfl
      ·have hall:=pG (i:=ids) (i':=ids) hR (fun _ _=>rfl) hok.2
       obtain ⟨g1,g2,g3⟩:=wI (ρ:=vI ρ st.nv [⟨.int .i64,((n.toNat:Nat):Int)⟩,⟨.int .i32,(((gJ l n.toNat).1:Nat):Int)⟩,⟨.int .i64,((n.toNat+(gJ l n.toNat).2:Nat):Int)⟩]) (ids:=ids) (o':=.iter j (st.nv+2)) hk
       simp only
       rw [← g2,hall]
       simp only [dQ,e2,hR j (mP hj.1),hdl]
       rfl
      ·obtain ⟨g1,g2⟩:=sE hok.2 q1
       rw [aAz hR (fun _ _=>rfl) g2]
     ·cases h
    ·rw [hsz] at hp
     rw [aWH,if_neg (by simpa using hp)] at h
     exact ⟨_,_,_,ids,h,by simp only [aL,bQ],rfl,rfl,fun key' ob q1 q2=>rfl,fun _ _=>rfl,Nat.le_refl _⟩
   ·cases h
  ·cases h
 ·cases h

/-! ### maps -/
def aTW (T:TT) (tys:List (Nat×Ty)) (ty:Nat) (st:St) (ρ:bW) (kk:SV→St→bW→Option R):Option R:=match lk T.mp ty with
 | none=>none
 | some (_,et)=>match lk tys et with
  | none=>none
  | some τ=>aPh st ρ st.sto 1 [⟨.list false (.pair .str τ),[]⟩] (.map st.nv) (.mp st.nk) kk
theorem aZg {tys:List (Nat×Ty)} {o:Oper} {ty:Nat} {st:St} {ρ:bW} {ids:jI} {kk:SV→St→bW→Option R} {r:R} (ho:o.op=.makeMap ty none) (h:aTW T tys ty st ρ kk=some r):HOk P o st ρ ids kk r:=by
 unfold aTW at h
 split at h
 ·cases h
 ·split at h
  ·cases h
  ·rename_i τ _
   refine aC1 h (aXX ho) ?_
   rintro av s' ⟨k,rfl,rfl⟩
   exact ⟨k,by simp only [aL,lS],by simp only [dQ,lM]; rfl⟩

def bAf (ρ:bW):(τ:Ty)→SV→Option τ.D
 | .bool,x=>aHo ρ x
 | .str,x=>strOf ρ x
 | .int k,x=>match aH7 ρ x with
  | some (k',n)=>if keq k' k then some n else none
  | none=>none
 | _,_=>none
theorem bBF {ρ:bW} {ids:jI} {τ:Ty} {x:SV} {v:τ.D} (h:bAf ρ τ x=some v):aL ρ ids x=τ.av v:=by
 cases τ <;> simp only [bAf] at h <;> first | (cases h; done) | skip
 ·split at h
  ·rename_i k' n hk
   split at h
   ·rename_i he
    cases h
    rw [kL hk,aFC he]; rfl
   ·cases h
  ·cases h
 ·rw [qB h]; rfl
 ·rw [aBn h]; rfl

def bAq (T:TT) (ty:Nat) (x y z:SV) (st:St) (ρ:bW) (kk:SV→St→bW→Option R):Option R:=match x,strOf ρ y,lk T.mp ty with
 | .mp key,some k,some (kt,_)=>match lk st.sto key,lk T.kd kt with
  | some (.map j),some .string=>match bFv ρ j with
   | some ⟨τ,l⟩=>match bAf ρ τ z with
    | some v=>(match (st.ok:Bool) with | true=>kk .any { live:=st.live,sto:=aPX key (.map st.nv) st.sto,nv:=st.nv+1,nk:=st.nk } (vI ρ st.nv [⟨.list false (.pair .str τ),aEE l k v⟩]) | false=>none)
    | none=>none
   | none=>none
  | _,_=>none
 | _,_,_=>none
theorem bBT (hT:eG P T) {o:Oper} {ty:Nat} {xo yo zo:Operand} {x y z:SV} {st:St} {ρ:bW} {ids:jI} {kk:SV→St→bW→Option R} {r:R} (ho:o.op=.mapUpdate ty xo yo zo)
  (hx:hP st.live xo=some x) (hy:hP st.live yo=some y) (hz:hP st.live zo=some z) (h:bAq T ty x y z st ρ kk=some r):HOk P o st ρ ids kk r:=by
 unfold bAq at h
 split at h
 ·rename_i key k kt et hk hmp
  split at h
  ·rename_i j hks hkt
   split at h
   ·rename_i τ l hm
    split at h
    ·rename_i v hv
     split at h
     ·rename_i hok
      simp only [St.ok,Bool.and_eq_true] at hok
      obtain ⟨f,hd⟩:=bA5 hm
      obtain ⟨h1,h2,_⟩:=wI (ρ:=ρ) (ids:=ids) (o':=.map j) hks
      simp only [dQ,hd,Go.Sx.mapOf] at h1
      refine ⟨_,aUJ (g:=τ.av) (l:=l) (v:=v) hT ho hmp hkt (by rw [bB hx]; simp only [aL]) (by rw [bB hy,aBn hk]) (by rw [bB hz,bBF hv]) h1,?_⟩
      rintro av s' ⟨rfl,rfl⟩
      have hR:=jC ρ st.nv [⟨.list false (.pair .str τ),aEE l k v⟩]
      refine ⟨_,_,_,ids,h,by simp only [aL],?_,rB (st:=st) hR (fun _ _=>rfl) hok.1,fun key' ob q1 q2=>?_,fun _ _=>rfl,Nat.le_refl _⟩
      ·have hall:=pG (i:=ids) (i':=ids) hR (fun _ _=>rfl) hok.2
       obtain ⟨g1,g2,g3⟩:=wI (ρ:=vI ρ st.nv [⟨.list false (.pair .str τ),aEE l k v⟩]) (ids:=ids) (o':=.map st.nv) hks
       simp only
       rw [← g2,hall]
       simp only [dQ,lM]
       rfl
      ·obtain ⟨g1,g2⟩:=sE hok.2 q1
       rw [aAz hR (fun _ _=>rfl) g2]
     ·cases h
    ·cases h
   ·cases h
  ·cases h
 ·cases h
end
end Go.Sx

/- The executor, part 9: regions. -/
namespace Go.Sx
open Go Go.Am

section
variable {P:Program} {R:Type}

def bE9 (X:XT):Op→Bool
 | .alloc _ | .store _ _ _ | .makeSlice _ _ _ | .range _ _ | .next _ _ | .makeMap _ _ | .mapUpdate _ _ _ _=>true
 | .box e _=>rQ e X.objs
 | .buildSlice ty 0 _=>rQ ty X.objs
 | .buildSlice ty 1 _=>rQ ty X.objs
 | .call ⟨.value _,_,_⟩ | .call ⟨.builtin .append,_,_⟩=>true
 | _=>false

def bFR (x y:Operand):Bool:=match x,y with
 | .tmp a,.tmp b=>!(Nat.beq a b)
 | _,_=>true
theorem aSO {x y:Operand} (h:bFR x y=true):∀ k,y=.tmp k→x≠.tmp k:=by
 rintro k rfl rfl
 simp [bFR] at h

def heavy (X:XT) (env:List aP) (fuel:Nat) (o:Op) (st:St) (ρ:bW) (kk:SV→St→bW→Option R):Option R:=match o with
 | .alloc e=>aZJ X.T e st ρ kk
 | .box e x=>match hP st.live x with
  | some sv=>bHg e sv st ρ kk
  | none=>none
 | .store ty a y=>match hP st.live a,hP st.live y with
  | some sa,some sy=>(match (bFR a y:Bool) with | true=>aZ5 X.T ty sa sy st ρ kk | false=>none)
  | _,_=>none
 | .makeSlice ty x y=>match hP st.live x,hP st.live y with
  | some sx,some sy=>bEn X.T X.ty ty sx sy st ρ kk
  | _,_=>none
 | .range ty x=>match hP st.live x with
  | some sv=>bAr X.T ty sv st ρ kk
  | none=>none
 | .next x true=>match hP st.live x with
  | some sv=>bDJ sv st ρ kk
  | none=>none
 | .makeMap ty none=>aTW X.T X.ty ty st ρ kk
 | .buildSlice ty n ps=>match n,ps.toList with
  | 0,[]=>aZ4 X.T X.ty ty st ρ kk
  | 1,[(0,y)]=>match hP st.live y with
   | some x=>aWE X.T X.ty ty x st ρ kk
   | none=>none
  | _,_=>none
 | .mapUpdate ty x y z=>match hP st.live x,hP st.live y,hP st.live z with
  | some sx,some sy,some sz=>bAq X.T ty sx sy sz st ρ kk
  | _,_,_=>none
 | .call ⟨.value f,args,_⟩=>match hP st.live f,aWO st.live args.toList with
  | some (.fn fid first caps),some as=>bC2 env fuel st ρ fid (first++as++caps) kk
  | _,_=>none
 | .call ⟨.builtin .append,args,tys⟩=>match args.toList,tys.toList with
  | [x,y],[t1,t2]=>(match (Nat.beq t1 t2 && bFR x y:Bool) with
   | true=>(match hP st.live x,hP st.live y with
    | some (.row key j),some sy=>bEF X.T t1 key j y sy st ρ kk
    | some .nils,some sy=>bCA X.T X.ty t1 x y sy st ρ kk
    | some sx,some sy=>bEi X.T X.ty t1 x y sx sy st ρ kk
    | _,_=>none)
   | false=>none)
  | _,_=>none
 | _=>none

theorem aYR {X:XT} (hX:XOk P X) {env:List aP} {fuel:Nat} (henv:∀ g∈env,aE P g fuel) {o:Oper} {st:St} {ρ:bW} {ids:jI} {kk:SV→St→bW→Option R} {r:R}
  (h:heavy X env fuel o.op st ρ kk=some r):HOk P o st ρ ids kk r:=by
 have hT:=hX.tt
 obtain ⟨dst,op,type,pos,after,guard⟩:=o
 simp only at h
 cases op <;> simp only [heavy] at h <;> first | (cases h; done) | skip
 case alloc e=>exact bBN hT rfl h
 case box e x =>
  split at h
  ·rename_i sv hx; exact bFO rfl hx h
  ·cases h
 case store ty a y =>
  split at h
  ·rename_i sa sy ha hy
   split at h
   ·rename_i hne; exact bB2 hT rfl (aSO hne) ha hy h
   ·cases h
  ·cases h
 case makeSlice ty x y =>
  split at h
  ·rename_i sx sy hx hy; exact bD1 hT rfl hx hy h
  ·cases h
 case range ty x =>
  split at h
  ·rename_i sv hx; exact bB6 hT rfl hx h
  ·cases h
 case next x b =>
  cases b <;> (try simp only at h) <;> first | (cases h; done) | skip
  split at h
  ·rename_i sv hx; exact bCS rfl hx h
  ·cases h
 case makeMap ty rv =>
  cases rv <;> (try simp only at h) <;> first | (cases h; done) | skip
  exact aZg rfl h
 case buildSlice ty n ps =>
  split at h
  ·rename_i hps; exact bB0 hT rfl hps h
  ·rename_i y hps
   split at h
   ·rename_i x hx; exact bAE hT rfl hps hx h
   ·cases h
  ·cases h
 case mapUpdate ty x y z =>
  split at h
  ·rename_i sx sy sz hx hy hz; exact bBT hT rfl hx hy hz h
  ·cases h
 case call c =>
  obtain ⟨callee,args,tys⟩:=c
  cases callee <;> (try simp only at h) <;> first | (cases h; done) | skip
  ·split at h
   ·rename_i fid first caps as hf ha
    exact bDW henv rfl hf ha h
   ·cases h
  ·rename_i b
   cases b <;> (try simp only at h) <;> first | (cases h; done) | skip
   split at h
   ·rename_i x y t1 t2 hargs htys
    have ea:args=#[x,y]:=by rw [← Array.toArray_toList (xs:=args),hargs]
    have et:tys=#[t1,t2]:=by rw [← Array.toArray_toList (xs:=tys),htys]
    split at h
    ·rename_i hb
     simp only [Bool.and_eq_true] at hb
     have e12:=Nat.eq_of_beq_eq_true hb.1
     subst e12
     subst ea; subst et
     split at h
     ·rename_i key j sy hx hy; exact bDG hT rfl (aSO hb.2) hx hy h
     ·rename_i sy hx hy; exact bDO hT rfl (aSO hb.2) hx hy h
     ·rename_i sx sy hx hy; exact bCL hT rfl (aSO hb.2) hx hy h
     ·cases h
    ·cases h
   ·cases h

def St.put (st:St) (d:Option Nat) (x:SV):St:=match d with
 | some d=>{ live:=(d,x) :: st.live,sto:=st.sto,nv:=st.nv,nk:=st.nk }
 | none=>st
theorem aDr {st:St} {d:Option Nat} {x:SV} {ρ:bW} {ids:jI}:eA (st.put d x) ρ ids=(eA st ρ ids).put d (aL ρ ids x):=by
 cases d with
 | none=>rfl
 | some d =>
  funext k
  simp only [eA,St.put,mA.put,lk]
  cases Nat.beq k d <;> rfl
theorem aK4 {st:St} {d:Option Nat} {x:SV}:(st.put d x).nk=st.nk:=by cases d <;> rfl
theorem jI.agree.le {a b:Nat} {i j k:jI} (h:jI.agree a i j) (h2:jI.agree b j k) (hab:a≤b):jI.agree a i k:=fun x hx=>(h2 x (Nat.lt_of_lt_of_le hx hab)).trans (h x hx)
theorem xB {st:St} {d:Option Nat} {x:SV}:(st.put d x).sto=st.sto:=by cases d <;> rfl

def aQ1 (ops:Array Oper) (o:Oper) (st:St) (ρ:bW) (yes no:bW→Option R):Option R:=match o.guard with
 | none=>yes ρ
 | some (j,want)=>match aGA ops j with
  | none=>none
  | some d=>match lk st.live d with
   | none=>none
   | some .und=>no ρ
   | some sv=>match want with
    | true=>ifB ρ sv yes no
    | false=>ifB ρ sv no yes
theorem aLR {ops:Array Oper} {o:Oper} {st:St} {ρ:bW} {ids:jI} {yes no:bW→Option R} {r:R} (h:aQ1 ops o st ρ yes no=some r) :
  (gd ops (eA st ρ ids) o=some true∧yes ρ=some r)∨(gd ops (eA st ρ ids) o=some false∧no ρ=some r):=by
 unfold aQ1 at h
 unfold gd
 split at h
 ·rename_i hg; rw [hg]; exact .inl ⟨rfl,h⟩
 ·rename_i j want hg
  rw [hg]
  simp only
  unfold aGA at h
  split at h
  ·cases h
  ·rename_i d hd
   rw [hd]
   simp only
   split at h
   ·cases h
   ·rename_i hl
    have:eA st ρ ids d=.lit undef:=by simp [eA,hl,aL]
    rw [this]
    exact .inr ⟨rfl,h⟩
   ·rename_i sv hne hl
    have e:eA st ρ ids d=aL ρ ids sv:=by simp [eA,hl]
    rw [e]
    cases want with
    | true =>
     rcases aXr h with ⟨hb,h⟩ | ⟨hb,h⟩
     ·rw [qB hb]; exact .inl ⟨rfl,h⟩
     ·rw [qB hb]; exact .inr ⟨rfl,h⟩
    | false =>
     rcases aXr h with ⟨hb,h⟩ | ⟨hb,h⟩
     ·rw [qB hb]; exact .inr ⟨rfl,h⟩
     ·rw [qB hb]; exact .inl ⟨rfl,h⟩

def opx (X:XT) (env:List aP) (fuel:Nat) (o:Oper) (st:St) (ρ:bW) (k:St→bW→Option R):Option R :=
 match bE9 X o.op with
 | true=>heavy X env fuel o.op st ρ fun sv st' ρ'=>k (st'.put o.dst sv) ρ'
 | false=>bCu X o.op st ρ fun sv st' ρ'=>k (st'.put o.dst sv) ρ'

def aTU (X:XT) (env:List aP) (n fuel:Nat) (ops:Array Oper):List Oper→(St→bW→Option R)→St→bW→Option R
 | [],k,st,ρ=>k st ρ
 | o :: l,k,st,ρ=>match inB o.dst n with
  | true=>aQ1 ops o st ρ (fun ρ=>opx X env fuel o st ρ fun st ρ=>aTU X env n fuel ops l k st ρ) (fun ρ=>aTU X env n fuel ops l k (st.put o.dst .und) ρ)
  | false=>none

def GOk (nk0:Nat) (ids0:jI) (G:R→mA→aN→Prop) (k:St→bW→Option R):Prop:=∀ st ρ ids r,nk0≤st.nk→jI.agree nk0 ids0 ids→k st ρ=some r→G r (eA st ρ ids) (bL st.sto ρ ids)

theorem aY2 {n:Nat} {t:mA} {s:aN} {ops:Array Oper} {o:Oper} {rest:List Oper} {Q:mA→aN→Prop} {Rr:AV→aN→Prop} (hg:gd ops t o=some true) (hd:inB o.dst n=true) (h:sP P o t s Rr)
  (k:∀ av s',Rr av s'→aXp P n ops rest Q (t.put o.dst av) s'):aXp P n ops (o :: rest) Q t s:=by
 intro a w m i h1 h2 h3 h4 w0 m0 i0 s0 Q' hq hs
 unfold wpList
 rw [if_pos (aH8 hg h2)]
 refine .inl (h a w m i h1 (fun k _=>h2 k) _ _ ?_)
 intro v w' av s' m' i' hR hv hr hst
 exact k av s' hR _ w' m' i' hr ((h2.mono hst.mu hst.io).put (h3 ▸ aN6 hd) hv) (size_put.trans h3) (aAr.trans h4) w0 m0 i0 s0 Q' hq (hs.trans hst)
theorem bFt {n:Nat} {t:mA} {s:aN} {ops:Array Oper} {o:Oper} {rest:List Oper} {Q:mA→aN→Prop} (hg:gd ops t o=some false) (hd:inB o.dst n=true)
  (k:aXp P n ops rest Q (t.put o.dst (.lit undef)) s):aXp P n ops (o :: rest) Q t s:=by
 intro a w m i h1 h2 h3 h4 w0 m0 i0 s0 Q' hq hs
 unfold wpList
 rw [if_neg (by rw [aH8 hg h2]; simp)]
 exact k _ w m i h1 (h2.put (h3 ▸ aN6 hd) rfl) (size_put.trans h3) (aAr.trans h4) w0 m0 i0 s0 Q' hq hs

theorem Ext.tau {st st':St} {ρ ρ':bW} (h:Ext st ρ st' ρ') (ids:jI):eA st' ρ' ids=eA st ρ ids:=by
 have h1:=h.1
 have h2:=(h.2.2.2 ids).1
 rw [← h2]
 unfold eA
 rw [h1]
theorem Ext.store {st st':St} {ρ ρ':bW} (h:Ext st ρ st' ρ') (ids:jI):bL st'.sto ρ' ids=bL st.sto ρ ids:=by
 rw [h.2.1]; exact (h.2.2.2 ids).2

theorem bEJ {X:XT} (hX:XOk P X) {_fuel:Nat} {o:Oper} {st:St} {ρ:bW} {ids:jI} {k:St→bW→Option R} {r:R}
  (h:bCu X o.op st ρ (fun sv st' ρ'=>k (st'.put o.dst sv) ρ')=some r):∃ sv st' ρ',k (st'.put o.dst sv) ρ'=some r∧Ext st ρ st' ρ' ∧
   sP P o (eA st ρ ids) (bL st.sto ρ ids) (fun x y=>x=aL ρ' ids sv∧y=bL st.sto ρ ids):=by
 obtain ⟨sv,st',ρ',h1,h2,h3⟩:=aWT hX (ids:=ids) h
 exact ⟨sv,st',ρ',h1,h2,h3 _ fun key o' _ hl=>by obtain ⟨j,hj⟩:=aF3 (ρ:=ρ) (ids:=ids) hl; exact List.mem_of_getElem? hj⟩

theorem aWm {X:XT} (hX:XOk P X) {env:List aP} {n fuel:Nat} (henv:∀ g∈env,aE P g fuel) {ops:Array Oper} {nk0:Nat} {ids0:jI} {G:R→mA→aN→Prop} {k:St→bW→Option R} (hk:GOk nk0 ids0 G k) :
  ∀ (l:List Oper),GOk nk0 ids0 (fun r=>aXp P n ops l (G r)) (aTU X env n fuel ops l k)
 | []=>fun st ρ ids r h0 hi h=>bEk (hk st ρ ids r h0 hi h)
 | o :: l=>fun st ρ ids r h0 hi h=>by
  have ih:=aWm (n:=n) (ops:=ops) hX henv hk l
  simp only [aTU] at h
  split at h
  ·rename_i hd
   rcases aLR (ids:=ids) h with ⟨hg,h⟩ | ⟨hg,h⟩
   ·unfold opx at h
    split at h
    ·obtain ⟨Rr,q1,q2⟩:=aYR hX henv (ids:=ids) h
     refine aY2 hg hd q1 fun av s' hR=>?_
     obtain ⟨sv,st',ρ',ids',g1,g2,g3,g4,_,g7,g8⟩:=q2 av s' hR
     have:=ih _ _ ids' r (by rw [aK4]; exact Nat.le_trans h0 g8) (hi.le g7 h0) g1
     rw [aDr,g4,xB] at this
     rw [g2,g3]; exact this
    ·obtain ⟨sv,st',ρ',g1,g2,g3⟩:=bEJ hX (_fuel:=fuel) (ids:=ids) h
     refine aY2 hg hd g3 ?_
     rintro _ _ ⟨rfl,rfl⟩
     have:=ih _ _ ids r (by rw [aK4,g2.2.2.1]; exact h0) hi g1
     rw [aDr,g2.tau,xB,g2.store] at this
     exact this
   ·refine bFt hg hd ?_
    have:=ih _ _ ids r (by rw [aK4]; exact h0) hi h
    rw [aDr,xB] at this
    simpa only [aL] using this
  ·cases h

/-! ### regions that draw their order -/
inductive JS where
 | l (i:Nat)
 | h (i:Nat)
 | m (i:Nat)

def aV9 (st:St) (o:Op):List (Nat×OB):=(aVn st o).filterMap fun key=>(lk st.sto key).map fun ob=>(key,ob)

def bBm (sto:List (Nat×OB)):List (Nat×OB)→Bool
 | []=>true
 | p :: l=>(match lk sto p.1 with
  | some ob=>OB.beq ob p.2
  | none=>false) && bBm sto l

def aDk (preds:List Nat) (sto:List (Nat×OB)):List (Nat×Option (List (Nat×OB)))→Option (List (Nat×Option (List (Nat×OB))))
 | []=>some []
 | (j,some obs) :: l=>match bBm sto obs with
  | true=>(aDk preds sto l).bind fun l'=>some ((j,some obs) :: l')
  | false=>match rQ j preds with
   | true=>(aDk preds sto l).bind fun l'=>some ((j,none) :: l')
   | false=>none
 | (j,none) :: l=>match rQ j preds with
  | true=>(aDk preds sto l).bind fun l'=>some ((j,none) :: l')
  | false=>none

def aSW (X:XT) (env:List aP) (n fuel:Nat) (ops:Array Oper):List JS→List Nat→List (Nat×Option (List (Nat×OB)))→(St→bW→Option R)→St→bW→Option R
 | [],Rd,_,k,st,ρ=>match aXy ops.size (fun j=>rQ j Rd) with
  | true=>k st ρ
  | false=>none
 | .l i :: js,Rd,locks,k,st,ρ=>match ops[i]? with
  | none=>none
  | some o=>match aSE ops Rd i && inB o.dst n with
   | true=>aQ1 ops o st ρ
    (fun ρ=>bCu X o.op st ρ fun sv st' ρ'=>aSW X env n fuel ops js (i :: Rd) ((i,some (aV9 st o.op)) :: locks) k (st'.put o.dst sv) ρ')
    (fun ρ=>aSW X env n fuel ops js (i :: Rd) ((i,some []) :: locks) k (st.put o.dst .und) ρ)
   | false=>none
 | .h i :: js,Rd,locks,k,st,ρ=>match ops[i]? with
  | none=>none
  | some o=>match inB o.dst n with
   | true=>aQ1 ops o st ρ
    (fun ρ=>match aSA ops Rd i with
     | true=>heavy X env fuel o.op st ρ fun sv st' ρ'=>(aDk (mI ops i) st'.sto locks).bind fun locks'=>aSW X env n fuel ops js (i :: Rd) locks' k (st'.put o.dst sv) ρ'
     | false=>none)
    (fun ρ=>match aSE ops Rd i with
     | true=>aSW X env n fuel ops js (i :: Rd) ((i,some []) :: locks) k (st.put o.dst .und) ρ
     | false=>none)
   | false=>none
 | .m i :: js,Rd,locks,k,st,ρ=>match ops[i]? with
  | none=>none
  | some o=>match inB o.dst n with
   | true=>aQ1 ops o st ρ
    (fun ρ=>match aSA ops Rd i with
     | true=>bCu X o.op st ρ fun sv st' ρ'=>(aDk (mI ops i) st'.sto locks).bind fun locks'=>aSW X env n fuel ops js (i :: Rd) locks' k (st'.put o.dst sv) ρ'
     | false=>none)
    (fun _=>none)
   | false=>none

def LR (sto:List (Nat×OB)) (ρ:bW) (ids:jI):List (Nat×Option (List (Nat×OB)))→List (Nat×aN)→Prop
 | [],l=>l=[]
 | (j,some obs) :: l,L=>∃ rd L',L=(j,rd) :: L'∧(∀ p∈rd,∃ q∈obs,lk sto q.1=some q.2∧p=(ids q.1,dQ ρ ids q.2))∧LR sto ρ ids l L'
 | (j,none) :: l,L=>∃ rd L',L=(j,rd) :: L'∧LR sto ρ ids l L'

theorem LR.mono {sto sto':List (Nat×OB)} {ρ ρ':bW} {ids ids':jI} (h:∀ key ob,lk sto key=some ob→lk sto' key=some ob∧(ids' key,dQ ρ' ids' ob)=(ids key,dQ ρ ids ob)) :
  ∀ {l:List (Nat×Option (List (Nat×OB)))} {L:List (Nat×aN)},LR sto ρ ids l L→LR sto' ρ' ids' l L
 | [],L,hl=>hl
 | (j,some obs) :: l,L,⟨rd,L',h1,h2,h3⟩=>⟨rd,L',h1,fun p hp=>by
   obtain ⟨q,hq,e1,e2⟩:=h2 p hp
   obtain ⟨g1,g2⟩:=h _ _ e1
   exact ⟨q,hq,g1,e2.trans g2.symm⟩,LR.mono h h3⟩
 | (j,none) :: l,L,⟨rd,L',h1,h3⟩=>⟨rd,L',h1,LR.mono h h3⟩

theorem aYJ {sto:List (Nat×OB)}:∀ {l:List (Nat×OB)},bBm sto l=true→∀ q∈l,lk sto q.1=some q.2
 | [],_,q,hq=>by cases hq
 | p :: l,h,q,hq=>by
  simp only [bBm,Bool.and_eq_true] at h
  rcases List.mem_cons.1 hq with rfl | hq
  ·have h1:=h.1
   split at h1
   ·rename_i ob hl; rw [hl,OB.beq_eq h1]
   ·cases h1
  ·exact aYJ h.2 q hq

theorem aDs {preds:List Nat} {sto sto':List (Nat×OB)} {ρ ρ':bW} {ids ids':jI} (h:∀ key ob,lk sto key=some ob→lk sto' key=some ob→(ids' key,dQ ρ' ids' ob)=(ids key,dQ ρ ids ob)) :
  ∀ {l l':List (Nat×Option (List (Nat×OB)))} {L:List (Nat×aN)},aDk preds sto' l=some l'→LR sto ρ ids l L→LR sto' ρ' ids' l' L∧∀ x∈L,rQ x.1 preds=true∨∀ p∈x.2,p∈bL sto' ρ' ids'
 | [],l',L,hs,hl=>by
  cases hs
  simp only [LR] at hl
  subst hl
  exact ⟨rfl,fun x hx=>by cases hx⟩
 | (j,some obs) :: l,l',L,hs,⟨rd,L',h1,h2,h3⟩=>by
  subst h1
  simp only [aDk] at hs
  split at hs
  ·rename_i hin
   obtain ⟨l2,q1,q2⟩:=aM hs
   cases q2
   obtain ⟨g1,g2⟩:=aDs h q1 h3
   have hin':=aYJ hin
   refine ⟨⟨rd,L',rfl,fun p hp=>?_,g1⟩,fun x hx=>?_⟩
   ·obtain ⟨q,hq,e1,e2⟩:=h2 p hp
    exact ⟨q,hq,hin' q hq,e2.trans (h _ _ e1 (hin' q hq)).symm⟩
   ·rcases List.mem_cons.1 hx with rfl | hx
    ·refine .inr fun p hp=>?_
     obtain ⟨q,hq,e1,e2⟩:=h2 p hp
     rw [e2,← h _ _ e1 (hin' q hq)]
     obtain ⟨jj,hj⟩:=aF3 (ρ:=ρ') (ids:=ids') (hin' q hq)
     exact List.mem_of_getElem? hj
    ·exact g2 x hx
  ·split at hs
   ·rename_i hm
    obtain ⟨l2,q1,q2⟩:=aM hs
    cases q2
    obtain ⟨g1,g2⟩:=aDs h q1 h3
    refine ⟨⟨rd,L',rfl,g1⟩,fun x hx=>?_⟩
    rcases List.mem_cons.1 hx with rfl | hx
    ·exact .inl hm
    ·exact g2 x hx
   ·cases hs
 | (j,none) :: l,l',L,hs,⟨rd,L',h1,h3⟩=>by
  subst h1
  simp only [aDk] at hs
  split at hs
  ·rename_i hm
   obtain ⟨l2,q1,q2⟩:=aM hs
   cases q2
   obtain ⟨g1,g2⟩:=aDs h q1 h3
   refine ⟨⟨rd,L',rfl,g1⟩,fun x hx=>?_⟩
   rcases List.mem_cons.1 hx with rfl | hx
   ·exact .inl hm
   ·exact g2 x hx
  ·cases hs

theorem bBb {sto:List (Nat×OB)} {ρ ρ':bW} {ids ids':jI} (h:bL sto ρ' ids'=bL sto ρ ids) {key:Nat} {ob:OB} (hl:lk sto key=some ob):(ids' key,dQ ρ' ids' ob)=(ids key,dQ ρ ids ob) :=
 pL h _ (aE6 hl)

theorem aLN {X:XT} (hX:XOk P X) {env:List aP} {n fuel:Nat} (henv:∀ g∈env,aE P g fuel) {ops:Array Oper} {nk0:Nat} {ids0:jI} {G:R→mA→aN→Prop} {k:St→bW→Option R} (hk:GOk nk0 ids0 G k) :
  ∀ (js:List JS) (Rd:List Nat) (locks:List (Nat×Option (List (Nat×OB)))) (L:List (Nat×aN)) st ρ ids r,nk0≤st.nk→jI.agree nk0 ids0 ids→aSW X env n fuel ops js Rd locks k st ρ=some r→LR st.sto ρ ids locks L→J P n ops (G r) Rd L (eA st ρ ids) (bL st.sto ρ ids)
 | [],Rd,locks,L,st,ρ,ids,r,h0,hi,h,hL=>by
  simp only [aSW] at h
  split at h
  ·rename_i hb; exact .done hb (hk st ρ ids r h0 hi h)
  ·cases h
 | .l i :: js,Rd,locks,L,st,ρ,ids,r,h0,hi,h,hL=>by
  simp only [aSW] at h
  split at h
  ·cases h
  ·rename_i o ho
   split at h
   ·rename_i hb
    simp only [Bool.and_eq_true] at hb
    rcases aLR (ids:=ids) h with ⟨hg,h⟩ | ⟨hg,h⟩
    ·obtain ⟨sv,st',ρ',g1,g2,g3⟩:=aWT hX (ids:=ids) h
     refine .light i o (aL ρ' ids sv) ((aV9 st o.op).map fun q=>(ids q.1,dQ ρ ids q.2)) ho hb.1 hb.2 (.inr ⟨hg,fun s hs=>g3 s fun key ob hm hl=>?_⟩) (fun p hp=>?_) ?_
     ·refine hs _ ?_
      refine List.mem_map.2 ⟨(key,ob),?_,rfl⟩
      unfold aV9
      exact List.mem_filterMap.2 ⟨key,lL.1 hm,by rw [hl]; rfl⟩
     ·obtain ⟨q,hq,rfl⟩:=List.mem_map.1 hp
      unfold aV9 at hq
      obtain ⟨key,hk1,hk2⟩:=List.mem_filterMap.1 hq
      cases hl:lk st.sto key with
      | none=>rw [hl] at hk2; cases hk2
      | some ob =>
       rw [hl] at hk2
       cases hk2
       obtain ⟨jj,hj⟩:=aF3 (ρ:=ρ) (ids:=ids) hl
       exact List.mem_of_getElem? hj
     ·have hst:∀ key ob,lk st.sto key=some ob→lk (st'.put o.dst sv).sto key=some ob∧(ids key,dQ ρ' ids ob)=(ids key,dQ ρ ids ob):=fun key ob hl=>by
       rw [xB,g2.2.1]
       exact ⟨hl,bBb (g2.2.2.2 ids).2 hl⟩
      have:=aLN hX henv hk js (i :: Rd) _ ((i,(aV9 st o.op).map fun q=>(ids q.1,dQ ρ ids q.2)) :: L) _ _ ids r (by rw [aK4,g2.2.2.1]; exact h0) hi g1 ⟨_,_,rfl,fun p hp=>by
        obtain ⟨q,hq,rfl⟩:=List.mem_map.1 hp
        have hq0:=hq
        unfold aV9 at hq
        obtain ⟨key,hk1,hk2⟩:=List.mem_filterMap.1 hq
        cases hl:lk st.sto key with
        | none=>rw [hl] at hk2; cases hk2
        | some ob =>
         rw [hl] at hk2
         cases hk2
         obtain ⟨e1,e2⟩:=hst key ob hl
         exact ⟨_,hq0,e1,e2.symm⟩,LR.mono hst hL⟩
      rw [aDr,g2.tau,xB,g2.store] at this
      exact this
    ·refine .light i o (.lit undef) [] ho hb.1 hb.2 (.inl ⟨hg,rfl⟩) (fun p hp=>by cases hp) ?_
     have:=aLN hX henv hk js (i :: Rd) _ ((i,[]) :: L) _ _ ids r (by rw [aK4]; exact h0) hi h ⟨[],L,rfl,(fun p hp=>absurd hp (List.not_mem_nil)),(by rw [xB]; exact hL)⟩
     rw [aDr,xB] at this
     simpa only [aL] using this
   ·cases h
 | .h i :: js,Rd,locks,L,st,ρ,ids,r,h0,hi,h,hL=>by
  simp only [aSW] at h
  split at h
  ·cases h
  ·rename_i o ho
   split at h
   ·rename_i hd
    rcases aLR (ids:=ids) h with ⟨hg,h⟩ | ⟨hg,h⟩
    ·split at h
     ·rename_i hhk
      obtain ⟨Rr,q1,q2⟩:=aYR hX henv (ids:=ids) h
      have key:∀ av s',Rr av s'→(∀ x∈L,rQ x.1 (mI ops i)=true∨∀ p∈x.2,p∈s')∧J P n ops (G r) (i :: Rd) L ((eA st ρ ids).put o.dst av) s':=by
       intro av s' hR
       obtain ⟨sv,st',ρ',ids',g1,g2,g3,g4,g6,g7,g8⟩:=q2 av s' hR
       obtain ⟨locks',e1,g1⟩:=aM g1
       obtain ⟨e2,e3⟩:=aDs g6 e1 hL
       have:=aLN hX henv hk js (i :: Rd) locks' L _ _ ids' r (by rw [aK4]; exact Nat.le_trans h0 g8) (hi.le g7 h0) g1 (by rw [xB]; exact e2)
       rw [aDr,g4,xB] at this
       rw [g2,g3]
       exact ⟨e3,this⟩
      exact .heavy i o Rr ho hhk hd hg q1 (fun av s' hR=>(key av s' hR).1) (fun av s' hR=>(key av s' hR).2)
     ·cases h
    ·split at h
     ·rename_i hlk
      refine .light i o (.lit undef) [] ho hlk hd (.inl ⟨hg,rfl⟩) (fun p hp=>by cases hp) ?_
      have:=aLN hX henv hk js (i :: Rd) _ ((i,[]) :: L) _ _ ids r (by rw [aK4]; exact h0) hi h ⟨[],L,rfl,(fun p hp=>absurd hp (List.not_mem_nil)),(by rw [xB]; exact hL)⟩
      rw [aDr,xB] at this
      simpa only [aL] using this
     ·cases h
   ·cases h
 | .m i :: js,Rd,locks,L,st,ρ,ids,r,h0,hi,h,hL=>by
  simp only [aSW] at h
  split at h
  ·cases h
  ·rename_i o ho
   split at h
   ·rename_i hd
    rcases aLR (ids:=ids) h with ⟨hg,h⟩ | ⟨hg,h⟩
    ·split at h
     ·rename_i hhk
      obtain ⟨sv,st',ρ',g1,g2,g3⟩:=aWT hX (ids:=ids) h
      obtain ⟨locks',e1,g1⟩:=aM g1
      have q1:sP P o (eA st ρ ids) (bL st.sto ρ ids) (fun x y=>x=aL ρ' ids sv∧y=bL st.sto ρ ids) :=
       g3 _ fun key o' _ hl=>by obtain ⟨j,hj⟩:=aF3 (ρ:=ρ) (ids:=ids) hl; exact List.mem_of_getElem? hj
      obtain ⟨e2,e3⟩:=aDs (sto:=st.sto) (ρ:=ρ) (ρ':=ρ') (ids:=ids) (ids':=ids) (fun key ob hl _=>bBb (g2.2.2.2 ids).2 hl) e1 hL
      rw [g2.store] at e3
      have key:=aLN hX henv hk js (i :: Rd) locks' L _ _ ids r (by rw [aK4,g2.2.2.1]; exact h0) hi g1 (by rw [xB]; exact e2)
      rw [aDr,g2.tau,xB,g2.store] at key
      exact .heavy i o _ ho hhk hd hg q1 (by rintro av s' ⟨rfl,rfl⟩; exact e3) (by rintro av s' ⟨rfl,rfl⟩; exact key)
     ·cases h
    ·cases h
   ·cases h
end
end Go.Sx

/- The executor, part 10: code, loops, functions. -/
namespace Go.Sx
open Go Go.Am

inductive Ad where
 | t (tmp e:Nat) (τ:Ty)
 | c (tmp cell e:Nat) (τ:Ty)
 | f (tmp:Nat)

structure LH (R:Type) where
 Γ:List Ty
 live:List (Nat×SV)
 sto:List (Nat×OB):=[]
 nk:Nat:=0
 ad:List Ad:=[]
 F:Nat→Vals Γ→Option R

structure aF (R:Type) where
 keep:List (Nat×List Nat):=[]
 ord:List (Nat×List JS):=[]
 loops:List (Nat×LH R):=[]
 unr:List (Nat×Nat):=[]
 adr:List (Nat×List Ad):=[]
 cuts:List (Nat×LH R):=[]

section
variable {P:Program} {R:Type}

def bAx (a:Ad) (st:St) (ρ:bW) (k:St→bW→Option R):Option R:=match a with
 | .t tmp e τ=>match lk st.live tmp with
  | some .nils=>(match (st.ok:Bool) with | true=>k { live:=(tmp,.row st.nk st.nv) :: st.live,sto:=(st.nk,.list e st.nv none) :: st.sto,nv:=st.nv+1,nk:=st.nk+1 } (vI ρ st.nv [⟨.list false τ,[]⟩]) | false=>none)
  | _=>k st ρ
 | .c tmp cell e τ=>match lk st.live tmp with
  | some (.ref key _)=>match lk st.sto key with
   | some (.cells e0 sz0 cs false)=>match cs[cell]? with
    | some .nils=>(match (st.ok:Bool) with | true=>k { live:=st.live,sto:=(st.nk,.list e st.nv none) :: aPX key (.cells e0 sz0 (cs.set cell (.row st.nk st.nv)) false) st.sto,nv:=st.nv+1,nk:=st.nk+1 } (vI ρ st.nv [⟨.list false τ,[]⟩]) | false=>none)
    | _=>k st ρ
   | _=>none
  | _=>none
 | .f tmp=>match lk st.live tmp with
  | some (.row key j)=>match listOf ρ (.var j) with
   | some ⟨τ,_l⟩=>(fun sto1=>(aIf 40 sto1 ρ (.list false τ) (.row key j)).bind fun v=>(match (st.ok && aJF st.nv st.nk sto1:Bool) with
     | true=>k { live:=(tmp,.var st.nv) :: st.live,sto:=sto1,nv:=st.nv+1,nk:=st.nk } (vI ρ st.nv [⟨.list false τ,v⟩])
     | false=>none)) (frzL [key] st.sto)
   | none=>none
  | _=>k st ρ
def aWW:List Ad→St→bW→(St→bW→Option R)→Option R
 | [],st,ρ,k=>k st ρ
 | a :: l,st,ρ,k=>bAx a st ρ fun st ρ=>aWW l st ρ k

theorem bCa {nk0:Nat} {ids0:jI} {a:Ad} {st:St} {ρ:bW} {k:St→bW→Option R} {r:R} (h:bAx a st ρ k=some r) :
  ∃ st' ρ',k st' ρ'=some r∧st.nk≤st'.nk∧∀ (ids:jI) (n:Nat) (c:Code) (Q:lZ),nk0≤st.nk→jI.agree nk0 ids0 ids→(∀ ids',jI.agree nk0 ids0 ids'→AWp P n c Q (eA st' ρ' ids') (bL st'.sto ρ' ids'))→AWp P n c Q (eA st ρ ids) (bL st.sto ρ ids):=by
 unfold bAx at h
 split at h
 ·rename_i tmp e τ
  split at h
  ·rename_i hl
   split at h
   ·rename_i hok
    simp only [St.ok,Bool.and_eq_true] at hok
    refine ⟨_,_,h,Nat.le_succ _,fun ids n c Q h0 hi hk=>?_⟩
    refine bDE tmp e τ.n (by simp [eA,hl,aL]) fun id=>?_
    have:=hk (aQS ids st.nk id) (hi.le (pR ids st.nk id) h0)
    have hR:=jC ρ st.nv [⟨.list false τ,[]⟩]
    have hI:=pR ids st.nk id
    have e1:=rB hR hI hok.1
    have e2:=pG hR hI hok.2
    have e3:eA { live:=(tmp,.row st.nk st.nv) :: st.live,sto:=(st.nk,.list e st.nv none) :: st.sto,nv:=st.nv+1,nk:=st.nk+1 } (vI ρ st.nv [⟨.list false τ,[]⟩]) (aQS ids st.nk id)=(eA st ρ ids).put (some tmp) (.row id 0):=by
     rw [← e1]
     funext j
     simp only [eA,mA.put,lk]
     cases Nat.beq j tmp with
     | true=>simp only [if_true,aL,lS,lM,vH,List.length_nil]
     | false=>rfl
    rw [e3] at this
    have e5:∀ l ρ ids,bL ((st.nk,.list e st.nv none) :: l) ρ ids=(ids st.nk,dQ ρ ids (.list e st.nv none)) :: bL l ρ ids:=fun _ _ _=>rfl
    simp only [e5,e2] at this
    simp only [lS,dQ,lM,aCf,List.flatMap_nil] at this
    exact this
   ·cases h
  ·exact ⟨st,ρ,h,Nat.le_refl _,fun ids n c Q h0 hi hk=>hk ids hi⟩
 ·rename_i tmp cell e τ
  split at h
  ·rename_i key off hl
   split at h
   ·rename_i e0 sz0 cs hk0
    split at h
    ·rename_i hc
     split at h
     ·rename_i hok
      simp only [St.ok,Bool.and_eq_true] at hok
      refine ⟨_,_,h,Nat.le_succ _,fun ids n c Q h0 hi hk=>?_⟩
      obtain ⟨h1,h2,h3⟩:=wI (ρ:=ρ) (ids:=ids) (o':=.cells e0 sz0 cs false) hk0
      simp only [dQ,Bool.false_eq_true,if_false] at h1
      refine aXG cell e τ.n h1 (by rw [aIb ρ ids hc]; simp [aL]) fun id=>?_
      have:=hk (aQS ids st.nk id) (hi.le (pR ids st.nk id) h0)
      have hR:=jC ρ st.nv [⟨.list false τ,[]⟩]
      have hI:=pR ids st.nk id
      have e1:=rB hR hI hok.1
      have e2:=pG hR hI hok.2
      have e3:eA { live:=st.live,sto:=(st.nk,.list e st.nv none) :: aPX key (.cells e0 sz0 (cs.set cell (.row st.nk st.nv)) false) st.sto,nv:=st.nv+1,nk:=st.nk+1 } (vI ρ st.nv [⟨.list false τ,[]⟩]) (aQS ids st.nk id)=eA st ρ ids:=e1
      rw [e3] at this
      obtain ⟨g1,g2,_⟩:=wI (ρ:=vI ρ st.nv [⟨.list false τ,[]⟩]) (ids:=aQS ids st.nk id) (o':=.cells e0 sz0 (cs.set cell (.row st.nk st.nv)) false) hk0
      have hcs:=(sE hok.2 hk0).2
      simp only [OB.ok] at hcs
      have hkey:=(sE hok.2 hk0).1
      have e4:bL (aPX key (.cells e0 sz0 (cs.set cell (.row st.nk st.nv)) false) st.sto) (vI ρ st.nv [⟨.list false τ,[]⟩]) (aQS ids st.nk id) =
        (bL st.sto ρ ids).set (aNS key st.sto) (ids key,.row e0 sz0 ((bQ ρ ids cs).set cell (.row id 0)) 0):=by
       rw [← g2,e2,hI key hkey]
       simp only [dQ,Bool.false_eq_true,if_false]
       congr 3
       rw [cH,List.map_set,← cH,oS hR hI cs hcs]
       simp only [aL,lS,lM,vH,List.length_nil]
      have e5:∀ l ρ ids,bL ((st.nk,.list e st.nv none) :: l) ρ ids=(ids st.nk,dQ ρ ids (.list e st.nv none)) :: bL l ρ ids:=fun _ _ _=>rfl
      simp only [e5,e4] at this
      simp only [lS,dQ,lM,aCf,List.flatMap_nil] at this
      exact this
     ·cases h
    ·exact ⟨st,ρ,h,Nat.le_refl _,fun ids n c Q h0 hi hk=>hk ids hi⟩
   ·cases h
  ·cases h
 ·rename_i tmp
  split at h
  ·rename_i key j hl
   split at h
   ·rename_i τ l hll
    obtain ⟨v,hv,h⟩:=aM h
    split at h
    ·rename_i hb
     simp only [Bool.and_eq_true,St.ok] at hb
     refine ⟨_,_,h,Nat.le_refl _,fun ids n c Q h0 hi hk=>?_⟩
     have hR:=jC ρ st.nv [⟨.list false τ,v⟩]
     have hview:=aEr (ids:=ids) _ _ _ _ hv
     have e1:=rB (st:=st) (i:=ids) (i':=ids) hR (fun _ _=>rfl) hb.1.1
     have e2:=pG (i:=ids) (i':=ids) hR (fun _ _=>rfl) hb.2
     have:=hk ids hi
     simp only at this
     rw [e2] at this
     have e3:eA { live:=(tmp,.var st.nv) :: st.live,sto:=frzL [key] st.sto,nv:=st.nv+1,nk:=st.nk } (vI ρ st.nv [⟨.list false τ,v⟩]) ids=(eA st ρ ids).put (some tmp) (.slc (v.flatMap τ.cells) v.length false):=by
      rw [← e1]
      funext i
      simp only [eA,mA.put,lk]
      cases Nat.beq i tmp with
      | true=>simp only [if_true,aL,lM]; rfl
      | false=>rfl
     rw [e3] at this
     have sh:=iQ.frzL (t:=eA st ρ ids) (ρ:=ρ) (ids:=ids) [key] st.sto []
     simp only [List.nil_append] at sh
     refine aKL sh (aKL (iQ.view tmp (x:=aL ρ ids (.row key j)) ?_ hview) this)
     simp only [eA,hl]
    ·cases h
   ·cases h
  ·exact ⟨st,ρ,h,Nat.le_refl _,fun ids n c Q h0 hi hk=>hk ids hi⟩

theorem aQh {nk0:Nat} {ids0:jI}:∀ {l:List Ad} {st:St} {ρ:bW} {k:St→bW→Option R} {r:R},aWW l st ρ k=some r →
  ∃ st' ρ',k st' ρ'=some r∧st.nk≤st'.nk∧∀ (ids:jI) (n:Nat) (c:Code) (Q:lZ),nk0≤st.nk→jI.agree nk0 ids0 ids→(∀ ids',jI.agree nk0 ids0 ids'→AWp P n c Q (eA st' ρ' ids') (bL st'.sto ρ' ids'))→AWp P n c Q (eA st ρ ids) (bL st.sto ρ ids)
 | [],st,ρ,k,r,h=>⟨st,ρ,h,Nat.le_refl _,fun ids n c Q h0 hi hk=>hk ids hi⟩
 | a :: l,st,ρ,k,r,h=>by
  obtain ⟨st1,ρ1,h1,h5,h2⟩:=bCa (P:=P) (nk0:=nk0) (ids0:=ids0) h
  obtain ⟨st2,ρ2,h3,h6,h4⟩:=aQh (nk0:=nk0) (ids0:=ids0) h1
  exact ⟨st2,ρ2,h3,Nat.le_trans h5 h6,fun ids n c Q h0 hi hk=>h2 ids n c Q h0 hi fun ids1 hi1=>h4 ids1 n c Q (Nat.le_trans h0 h5) hi1 hk⟩

def aPD (live:List (Nat×SV)):List (Nat×SV)→Option (List SV)
 | []=>some []
 | p :: l=>match lk live p.1 with
  | none=>none
  | some a=>match aPD live l with
   | none=>none
   | some as=>some (a :: as)
def bC8 {α β:Type}:List (α×β)→List β
 | []=>[]
 | p :: l=>p.2 :: bC8 l

theorem aRa {live:List (Nat×SV)} {V:Asg} {K:xP}:∀ {l:List (Nat×SV)} {as:List SV},aPD live l=some as→aNX V K (bC8 l) as=true→∀ k p,lk l k=some p→∃ a,lk live k=some a∧chk V K p a=true
 | [],_,_,_,k,p,h=>by simp [lk] at h
 | (k',p') :: l,as,h,hc,k,p,hk=>by
  simp only [aPD] at h
  split at h
  ·cases h
  ·rename_i a ha
   split at h
   ·cases h
   ·rename_i as' hs
    cases h
    simp only [bC8,aNX,Bool.and_eq_true] at hc
    unfold lk at hk
    by_cases e:k=k'
    ·subst e
     rw [eB,if_pos rfl] at hk
     cases hk
     exact ⟨a,ha,hc.1⟩
    ·rw [fN e] at hk
     exact aRa (l:=l) hs hc.2 k p hk

def idK:Nat→xP
 | 0=>[]
 | n+1=>(n,n) :: idK n
def aWe:Nat→xP→Bool
 | 0,_=>true
 | n+1,K=>aWq K n n && aWe n K
theorem aTQ {K:xP}:∀ {n k:Nat},aWe n K=true→k<n→lk K k=some k
 | 0,_,_,h=>by omega
 | n+1,k,hs,h=>by
  simp only [aWe,Bool.and_eq_true] at hs
  by_cases e:k=n
  ·subst e; exact aKD hs.1
  ·exact aTQ hs.2 (by omega)

def aK6 (L:LH R):St:={ live:=L.live,sto:=L.sto,nv:=L.Γ.length,nk:=L.nk }

def enter (nk0:Nat) (L:LH R) (st:St) (ρ:bW) (g:Vals L.Γ→Option R):Option R:=aWW L.ad st ρ fun st ρ=>match aPD st.live L.live with
 | none=>none
 | some as=>match mt (bC8 L.live) as L.sto L.Γ.length [] st.sto with
  | none=>none
  | some m=>match aWe nk0 m.K && Nat.ble nk0 L.nk with
   | true=>(vals m.sto ρ m.V 0 L.Γ).bind g
   | false=>none

theorem bF0 {st:St} {ρ:bW} {ids:jI} {plive:List (Nat×SV)} {psto:List (Nat×OB)} {Γ:List Ty} {as:List SV} {m:Mt} {x:Vals Γ} {nv nk:Nat} {n:Nat} {c:Code} {Q:lZ}
  (ha:aPD st.live plive=some as) (hm:mt (bC8 plive) as psto Γ.length [] st.sto=some m) (hx:vals m.sto ρ m.V 0 Γ=some x)
  (hk:AWp P n c Q (eA ⟨plive,psto,nv,nk⟩ (hQ Γ x) (aIQ m.K ids)) (bL psto (hQ Γ x) (aIQ m.K ids))):AWp P n c Q (eA st ρ ids) (bL st.sto ρ ids):=by
 obtain ⟨hchk,hasg,⟨used,hsto⟩,ks,hfrz⟩:=bCN hm
 refine aKL (fun w mu i a hr ht=>?_) hk
 have sh:=iQ.frzL (t:=eA st ρ ids) (ρ:=ρ) (ids:=ids) ks st.sto []
 simp only [List.nil_append] at sh
 rw [← hfrz] at sh
 obtain ⟨m1,i1,r1,r2,r3⟩:=sh w mu i a hr ht
 obtain ⟨q1,q2,q3,q4,q5⟩:=aTe r1 hx hasg hsto
 refine ⟨m1,i1,q3.sub (List.sublist_append_left _ _),fun j=>?_,r3.trans (Step.same fun p hp=>q4 p (List.mem_append_left _ hp))⟩
 simp only [eA]
 cases hl:lk plive j with
 | none=>exact trivial
 | some p =>
  obtain ⟨b,hb,hc⟩:=aRa ha hchk j p hl
  refine q1 p b hc _ ?_
  have:=r2 j
  simp only [eA,hb] at this
  exact this

theorem aUB {nk0:Nat} {ids0:jI} {L:LH R} {st:St} {ρ:bW} {g:Vals L.Γ→Option R} {r:R} (h:enter nk0 L st ρ g=some r) :
  ∃ x,g x=some r∧nk0≤L.nk∧∀ (ids:jI) (n:Nat) (c:Code) (Q:lZ),nk0≤st.nk→jI.agree nk0 ids0 ids→(∀ ids',jI.agree nk0 ids0 ids'→AWp P n c Q (eA (aK6 L) (hQ L.Γ x) ids') (bL L.sto (hQ L.Γ x) ids'))→AWp P n c Q (eA st ρ ids) (bL st.sto ρ ids):=by
 obtain ⟨st1,ρ1,h1,h5,h2⟩:=aQh (P:=P) (nk0:=nk0) (ids0:=ids0) h
 split at h1
 ·cases h1
 ·rename_i as ha
  split at h1
  ·cases h1
  ·rename_i m hm
   split at h1
   ·rename_i hb
    simp only [Bool.and_eq_true] at hb
    obtain ⟨x,hx,hg⟩:=aM h1
    exact ⟨x,hg,Nat.le_of_ble_eq_true hb.2,fun ids n c Q h0 hi hk=>h2 ids n c Q h0 hi fun ids1 hi1=>bF0 ha hm hx (hk _ fun k hk=>by rw [aPK (aTQ hb.1 hk)]; exact hi1 k hk)⟩
   ·cases h1

/-! ### code -/
def aNv:Code→Option Nat
 | .region id _ _=>some id
 | .seq a b=>match aNv a with
  | some x=>some x
  | none=>aNv b
 | .cond _ a b=>match aNv a with
  | some x=>some x
  | none=>aNv b
 | .block _ a=>aNv a
 | .loop a=>aNv a
 | _=>none
def keyOf (c:Code):Nat:=match aNv c with
 | some x=>x
 | none=>0

def aQ5 (ks:List Nat):List (Nat×SV)→List (Nat×SV)
 | []=>[]
 | p :: l=>if rQ p.1 ks then p :: aQ5 ks l else aQ5 ks l
theorem aUz {ks:List Nat}:∀ {l:List (Nat×SV)} {k:Nat},lk (aQ5 ks l) k=none∨lk (aQ5 ks l) k=lk l k
 | [],k=>.inl rfl
 | p :: l,k=>by
  unfold aQ5
  split
  ·rename_i hm
   unfold lk
   by_cases e:k=p.1
   ·subst e; rw [eB,if_pos rfl]; exact .inr rfl
   ·rw [fN e]; exact aUz (l:=l)
  ·rename_i hm
   by_cases e:k=p.1
   ·-- it is gone at all places
    left
    have gone:∀ (l:List (Nat×SV)),lk (aQ5 ks l) k=none:=by
     intro l
     induction l with
     | nil=>rfl
     | cons q l ih =>
      unfold aQ5
      split
      ·rename_i hq
       have:k≠q.1:=fun e2=>hm (by rw [← e,e2]; exact hq)
       unfold lk
       rw [fN this]; exact ih
      ·exact ih
    exact gone l
   ·have:=aUz (ks:=ks) (l:=l) (k:=k)
    have e2:lk (p :: l) k=lk l k:=by show (if Nat.beq k p.1 then _ else _)=_; rw [fN e]; rfl
    rw [e2]; exact this
def aIe (H:aF R) (id:Nat) (st:St):St:=match lk H.keep id with
 | none=>st
 | some ks=>{ live:=aQ5 ks st.live,sto:=st.sto,nv:=st.nv,nk:=st.nk }
theorem bAD {H:aF R} {id:Nat} {st:St} {ρ:bW} {ids:jI}:∀ k,eA (aIe H id st) ρ ids k=.any∨eA (aIe H id st) ρ ids k=eA st ρ ids k:=by
 intro k
 unfold aIe
 split
 ·exact .inr rfl
 ·rename_i ks _
  simp only [eA]
  rcases aUz (ks:=ks) (l:=st.live) (k:=k) with h | h
  ·rw [h]; exact .inl rfl
  ·rw [h]; exact .inr rfl
theorem aWv {H:aF R} {id:Nat} {st:St}:(aIe H id st).nk=st.nk:=by unfold aIe; split <;> rfl
theorem bAL {H:aF R} {id:Nat} {st:St}:(aIe H id st).sto=st.sto:=by unfold aIe; split <;> rfl

abbrev aDf (R:Type):=Nat→Exit→St→bW→Option R

def bD7 (b:aDf R→Nat→St→bW→Option R) (k:aDf R):aDf R:=fun fuel e=>match e with
 | .normal=>b k fuel
 | e=>k fuel e
def bCF (id:Nat) (k:aDf R):aDf R:=fun fuel e=>match e with
 | .exit j=>match Nat.beq j id with
  | true=>k fuel .normal
  | false=>k fuel (.exit j)
 | e=>k fuel e
def aYr (nk0:Nat) (L:LH R) (k:aDf R):aDf R:=fun fuel e=>match e with
 | .normal=>fun st ρ=>enter nk0 L st ρ fun x=>L.F fuel x
 | e=>k fuel e
def bG5 (body:aDf R→Nat→St→bW→Option R) (k:aDf R):Nat→Nat→St→bW→Option R
 | 0,_,_,_=>none
 | m+1,fuel,st,ρ=>body (fun fuel e=>match e with
  | .normal=>bG5 body k m fuel
  | e=>k fuel e) fuel st ρ

def bEG (nk0:Nat) (H:aF R) (key:Nat) (b:aDf R→Nat→St→bW→Option R):aDf R→Nat→St→bW→Option R:=match lk H.cuts key with
 | none=>b
 | some L=>fun _ fuel st ρ=>enter nk0 L st ρ fun x=>L.F fuel x

def bFI (X:XT) (env:List aP) (n:Nat) (H:aF R) (id:Nat) (ops:Array Oper) (draw:Bool) (k:aDf R) (fuel:Nat) (st:St) (ρ:bW):Option R:=match draw with
 | false=>aTU X env n fuel ops ops.toList (fun st ρ=>k fuel .normal st ρ) (aIe H id st) ρ
 | true=>match lk H.ord id with
  | none=>none
  | some js=>match aXW ops with
   | true=>aSW X env n fuel ops js [] [] (fun st ρ=>k fuel .normal st ρ) (aIe H id st) ρ
   | false=>none

def sx (X:XT) (env:List aP) (n nk0:Nat) (H:aF R):Code→aDf R→Nat→St→bW→Option R
 | .skip,k,fuel,st,ρ=>k fuel .normal st ρ
 | .region id ops draw,k,fuel,st,ρ=>match lk H.adr id with
  | none=>bFI X env n H id ops draw k fuel st ρ
  | some l=>aWW l st ρ fun st ρ=>bFI X env n H id ops draw k fuel st ρ
 | .seq a b,k,fuel,st,ρ=>sx X env n nk0 H a (bD7 (bEG nk0 H (keyOf b) (sx X env n nk0 H b)) k) fuel st ρ
 | .cond c a b,k,fuel,st,ρ=>match hP st.live c with
  | none=>none
  | some sv=>ifB ρ sv (fun ρ=>sx X env n nk0 H a k fuel st ρ) (fun ρ=>sx X env n nk0 H b k fuel st ρ)
 | .block id a,k,fuel,st,ρ=>sx X env n nk0 H a (bCF id k) fuel st ρ
 | .loop a,k,fuel,st,ρ=>match lk H.unr (keyOf a) with
  | some N=>bG5 (sx X env n nk0 H a) k N fuel st ρ
  | none=>match lk H.loops (keyOf a) with
   | some L=>enter nk0 L st ρ fun x=>L.F fuel x
   | none=>none
 | .exit id,k,fuel,st,ρ=>k fuel (.exit id) st ρ
 | .ret,k,fuel,st,ρ=>k fuel .ret st ρ
 | _,_,_,_,_=>none

def rR (X:XT) (env:List aP) (n nk0:Nat) (H:aF R):Code→aDf R→Prop
 | .seq a b,k=>rR X env n nk0 H a (bD7 (bEG nk0 H (keyOf b) (sx X env n nk0 H b)) k)∧(match lk H.cuts (keyOf b) with
  | some L=>(∀ x,L.F 0 x=none)∧∀ fuel x,L.F (fuel+1) x=sx X env n nk0 H b k fuel (aK6 L) (hQ L.Γ x)
  | none=>True)∧rR X env n nk0 H b k
 | .cond _ a b,k=>rR X env n nk0 H a k∧rR X env n nk0 H b k
 | .block id a,k=>rR X env n nk0 H a (bCF id k)
 | .loop a,k=>match lk H.unr (keyOf a) with
  | some _=>∀ k',rR X env n nk0 H a k'
  | none=>match lk H.loops (keyOf a) with
   | some L=>((∀ x,L.F 0 x=none)∧∀ fuel x,L.F (fuel+1) x=sx X env n nk0 H a (aYr nk0 L k) fuel (aK6 L) (hQ L.Γ x))∧rR X env n nk0 H a (aYr nk0 L k)
   | none=>True
 | _,_=>True

theorem bHi {n:Nat} {c:Code} {Q:lZ} {t t':mA} {s:aN} (h:∀ k,t' k=.any∨t' k=t k) (k:AWp P n c Q t' s):AWp P n c Q t s :=
 fun a w m i h1 h2 h3 h4=>k a w m i h1 (h2.sub h) h3 h4

theorem bJc {X:XT} (hX:XOk P X) (hmix:P.follows .mixedOrders=true) {env:List aP} {F0:Nat} (henv:∀ fuel,fuel≤F0→∀ g∈env,aE P g fuel) {n nk0:Nat} {ids0:jI} {H:aF R} :
  ∀ (c:Code) (F:Nat) (_:F≤F0) (k:aDf R) (Q:R→lZ),rR X env n nk0 H c k→(∀ fuel,fuel≤F→∀ e st ρ ids r,nk0≤st.nk→jI.agree nk0 ids0 ids→k fuel e st ρ=some r→Q r e (eA st ρ ids) (bL st.sto ρ ids)) →
   ∀ fuel,fuel≤F→∀ st ρ ids r,nk0≤st.nk→jI.agree nk0 ids0 ids→sx X env n nk0 H c k fuel st ρ=some r→AWp P n c (Q r) (eA st ρ ids) (bL st.sto ρ ids):=by
 intro c
 induction c with
 | skip=>intro F hF k Q _ hk fuel hf st ρ ids r h0 hi h; exact aSy (hk fuel hf _ _ _ ids r h0 hi h)
 | exit id=>intro F hF k Q _ hk fuel hf st ρ ids r h0 hi h; exact bAO (hk fuel hf _ _ _ ids r h0 hi h)
 | ret=>intro F hF k Q _ hk fuel hf st ρ ids r h0 hi h; exact aLo (hk fuel hf _ _ _ ids r h0 hi h)
 | region id ops draw =>
  intro F hF k Q _ hk fuel hf st ρ ids r h0 hi h
  simp only [sx] at h
  have main:∀ st ρ ids,nk0≤st.nk→jI.agree nk0 ids0 ids→bFI X env n H id ops draw k fuel st ρ=some r→AWp P n (.region id ops draw) (Q r) (eA st ρ ids) (bL st.sto ρ ids):=by
   intro st ρ ids h0 hi h
   refine bHi (bAD (H:=H) (id:=id)) ?_
   rw [← bAL (H:=H) (id:=id) (st:=st)]
   unfold bFI at h
   split at h
   ·have:=aWm (P:=P) (n:=n) (ops:=ops) (G:=fun r=>Q r .normal) hX (henv fuel (Nat.le_trans hf hF)) (nk0:=nk0) (ids0:=ids0) (fun st ρ ids r h0 hi h=>hk fuel hf .normal st ρ ids r h0 hi h) ops.toList _ _ ids r (by rw [aWv]; exact h0) hi h
    refine mL ?_
    unfold AAt
    rw [List.drop_zero]
    exact this
   ·split at h
    ·cases h
    ·rename_i js _
     split at h
     ·rename_i hb
      have:=aLN (P:=P) (n:=n) (ops:=ops) (G:=fun r=>Q r .normal) hX (henv fuel (Nat.le_trans hf hF)) (nk0:=nk0) (ids0:=ids0) (fun st ρ ids r h0 hi h=>hk fuel hf .normal st ρ ids r h0 hi h) js [] [] [] _ _ ids r (by rw [aWv]; exact h0) hi h rfl
      exact bFg hmix hb this
     ·cases h
  split at h
  ·exact main st ρ ids h0 hi h
  ·obtain ⟨st1,ρ1,h1,h5,h2⟩:=aQh (P:=P) (nk0:=nk0) (ids0:=ids0) h
   exact h2 ids n _ _ h0 hi fun ids1 hi1=>main st1 ρ1 ids1 (Nat.le_trans h0 h5) hi1 h1
 | seq a b iha ihb =>
  intro F hF k Q hL hk fuel hf st ρ ids r h0 hi h
  simp only [sx] at h
  refine kO ?_
  refine iha F hF (bD7 (bEG nk0 H (keyOf b) (sx X env n nk0 H b)) k) (fun r=>aVS (AWp P n b (Q r)) (Q r)) hL.1 ?_ fuel hf st ρ ids r h0 hi h
  intro fuel hf e st ρ ids r h0 hi h
  cases e with
  | normal =>
   simp only [bD7] at h
   have hc:=hL.2.1
   unfold bEG at h
   cases hl:lk H.cuts (keyOf b) with
   | none =>
    rw [hl] at h
    exact ihb F hF k Q hL.2.2 hk fuel hf st ρ ids r h0 hi h
   | some L =>
    rw [hl] at h hc
    simp only at h hc
    obtain ⟨x,hx,hLk,hA⟩:=aUB (P:=P) (ids0:=ids0) h
    cases fuel with
    | zero=>rw [hc.1] at hx; cases hx
    | succ fuel =>
     rw [hc.2] at hx
     exact hA ids n b _ h0 hi fun ids' hi'=>ihb F hF k Q hL.2.2 hk fuel (by omega) (aK6 L) (hQ L.Γ x) ids' r hLk hi' hx
  | _=>exact hk fuel hf _ st ρ ids r h0 hi h
 | cond c a b iha ihb =>
  intro F hF k Q hL hk fuel hf st ρ ids r h0 hi h
  simp only [sx] at h
  split at h
  ·cases h
  ·rename_i sv hx
   rcases aXr h with ⟨hb,h⟩ | ⟨hb,h⟩
   ·exact aO7 true (by rw [bB hx,qB hb]) (fun _=>iha F hF k Q hL.1 hk fuel hf st ρ ids r h0 hi h) (fun e=>by cases e)
   ·exact aO7 false (by rw [bB hx,qB hb]) (fun e=>by cases e) (fun _=>ihb F hF k Q hL.2 hk fuel hf st ρ ids r h0 hi h)
 | block id a iha =>
  intro F hF k Q hL hk fuel hf st ρ ids r h0 hi h
  simp only [sx] at h
  refine aUA ?_
  refine iha F hF (bCF id k) (fun r=>aTJ id (Q r)) hL ?_ fuel hf st ρ ids r h0 hi h
  intro fuel hf e st ρ ids r h0 hi h
  cases e with
  | exit j =>
   simp only [bCF] at h
   simp only [aTJ]
   cases hj:Nat.beq j id with
   | true=>rw [hj] at h; exact hk fuel hf _ st ρ ids r h0 hi h
   | false=>rw [hj] at h; exact hk fuel hf _ st ρ ids r h0 hi h
  | _=>exact hk fuel hf _ st ρ ids r h0 hi h
 | loop a iha =>
  intro F hF k Q hL hk fuel hf st ρ ids r h0 hi h
  simp only [sx] at h
  simp only [rR] at hL
  split at h
  ·rename_i N hN
   rw [hN] at hL
   simp only at hL
   refine aXi N ?_
   have key:∀ N fuel,fuel≤F→∀ st ρ ids r,nk0≤st.nk→jI.agree nk0 ids0 ids→bG5 (sx X env n nk0 H a) k N fuel st ρ=some r→aGN P n a (Q r) N (eA st ρ ids) (bL st.sto ρ ids):=by
    intro N
    induction N with
    | zero=>intro fuel _ st ρ ids r _ _ h; cases h
    | succ N ih =>
     intro fuel hf st ρ ids r h0 hi h
     refine iha F hF _ (fun r=>aVS (aGN P n a (Q r) N) (Q r)) (hL _) ?_ fuel hf st ρ ids r h0 hi h
     intro fuel hf e st ρ ids r h0 hi h
     cases e with
     | normal=>exact ih fuel hf st ρ ids r h0 hi h
     | _=>exact hk fuel hf _ st ρ ids r h0 hi h
   exact key N fuel hf st ρ ids r h0 hi h
  ·rename_i hN
   rw [hN] at hL
   simp only at hL
   split at h
   ·rename_i L hl
    rw [hl] at hL
    simp only at hL
    obtain ⟨⟨hz,hs⟩,hLa⟩:=hL
    have key:∀ N fuel x ids r,fuel≤N→fuel≤F→nk0≤L.nk→jI.agree nk0 ids0 ids→L.F fuel x=some r→aGN P n a (Q r) N (eA (aK6 L) (hQ L.Γ x) ids) (bL L.sto (hQ L.Γ x) ids):=by
     intro N
     induction N with
     | zero =>
      intro fuel x ids r h1 _ _ _ h
      obtain rfl:fuel=0:=by omega
      rw [hz] at h; cases h
     | succ N ih =>
      intro fuel x ids r h1 h2 h3 h4 h
      cases fuel with
      | zero=>rw [hz] at h; cases h
      | succ fuel =>
       rw [hs] at h
       refine iha fuel (by omega) (aYr nk0 L k) (fun r=>aVS (aGN P n a (Q r) N) (Q r)) hLa ?_ fuel (Nat.le_refl _) (aK6 L) (hQ L.Γ x) ids r h3 h4 h
       intro fuel' hf' e st ρ ids r h0 hi h
       cases e with
       | normal =>
        obtain ⟨x',hx',hLk,hA⟩:=aUB (P:=P) (ids0:=ids0) h
        show aGN P n a (Q r) N _ _
        cases N with
        | zero =>
         obtain rfl:fuel'=0:=by omega
         rw [hz] at hx'; cases hx'
        | succ N=>exact hA ids n a _ h0 hi fun ids' hi'=>ih fuel' x' ids' r (by omega) (by omega) hLk hi' hx'
       | _=>exact hk fuel' (by omega) _ st ρ ids r h0 hi h
    obtain ⟨x,hx,hLk,hA⟩:=aUB (P:=P) (ids0:=ids0) h
    exact hA ids n (.loop a) _ h0 hi fun ids' hi'=>aXi fuel (key fuel fuel x ids' r (Nat.le_refl _) hf hLk hi' hx)
   ·cases h
 | _=>intro F hF k Q _ hk fuel hf st ρ ids r _ _ h; cases h

/-! ### functions -/
def bBc (T:TT) (st:St):ResultVar→Option SV
 | .tmp t=>lk st.live t
 | .cell a ty=>match lk st.live a with
  | some (.ref key off)=>match lk st.sto key with
   | some (.cells _ _ cs _)=>match T.lay ty with
    | some (true,n)=>if Nat.ble (off+n) cs.length then some (.agg ((cs.drop off).take n)) else none
    | some (false,_)=>cs[off]?
    | none=>none
   | _=>none
  | _=>none
def aWi (T:TT) (st:St):List ResultVar→Option (List SV)
 | []=>some []
 | r :: rs=>match bBc T st r with
  | none=>none
  | some x=>match aWi T st rs with
   | none=>none
   | some xs=>some (x :: xs)
def aZv:List SV→SV
 | [x]=>x
 | xs=>.tup xs

theorem bD0 {T:TT} (hT:eG P T) {st:St} {ρ:bW} {ids:jI} {r:ResultVar} {x:SV} (h:bBc T st r=some x):aTf P (eA st ρ ids) (bL st.sto ρ ids) r (aL ρ ids x):=by
 cases r with
 | tmp t=>exact bCI (by simp only [bBc] at h; simp [eA,h])
 | cell a ty =>
  simp only [bBc] at h
  split at h
  ·rename_i key off ha
   split at h
   ·rename_i e sz cs f hk
    obtain ⟨j,hj⟩:=aF3 (ρ:=ρ) (ids:=ids) hk
    simp only [dQ] at hj
    refine bCt hT (off:=off) (by simp only [eA,ha]; simp only [aL]) hj ?_
    split at h
    ·rename_i n hl
     split at h
     ·rename_i hb
      cases h
      rw [hl]
      simp only [aL]
      rw [fE,if_pos hb,cH,cH,List.map_take,List.map_drop]
     ·cases h
    ·rename_i n hl
     rw [hl]
     exact aIb ρ ids h
    ·cases h
   ·cases h
  ·cases h

theorem aX0 {t:mA} {s:aN}:∀ (rs:List ResultVar) (xs:List AV),(∀ (k:Nat) r,rs[k]?=some r→∃ x,xs[k]?=some x∧aTf P t s r x)→xs.length=rs.length →
  ∀ w m i (a:Act),nX w m i s→TR m i t a→∃ vs:List Value,(rs.mapM (aUN a.tmps)).run P w=.ok vs w∧VL m i xs vs
 | [],xs,_,hl,w,m,i,a,_,_=>by
  have:xs=[]:=List.length_eq_zero_iff.1 hl
  subst this
  exact ⟨[],rfl,rfl⟩
 | r :: rs,xs,h,hl,w,m,i,a,hr,ht=>by
  cases xs with
  | nil=>simp at hl
  | cons x xs =>
   obtain ⟨x',h1,h2⟩:=h 0 r rfl
   simp at h1
   subst h1
   obtain ⟨v,q1,q2⟩:=h2 w m i a hr ht
   obtain ⟨vs,q3,q4⟩:=aX0 rs xs (fun k r hk=>by simpa using h (k+1) r (by simpa using hk)) (by simpa using hl) w m i a hr ht
   refine ⟨v :: vs,?_,v,vs,rfl,q2,q4⟩
   rw [List.mapM_cons]
   simp only [Sem.run_bind,q1,Result.andThen_ok,q3,Sem.run_pure]

theorem bCX {T:TT} (hT:eG P T) {fn:Func} {st:St} {ρ:bW} {ids:jI} {xs:List SV} (h:aWi T st fn.results.toList=some xs):bEr P fn (eA st ρ ids) (bL st.sto ρ ids) (aL ρ ids (aZv xs)):=by
 intro w m i a hr ht
 have key:∀ (rs:List ResultVar) (xs:List SV),aWi T st rs=some xs→(bQ ρ ids xs).length=rs.length∧∀ (k:Nat) r,rs[k]?=some r→∃ x,(bQ ρ ids xs)[k]?=some x∧aTf P (eA st ρ ids) (bL st.sto ρ ids) r x:=by
  intro rs
  induction rs with
  | nil=>intro xs h; cases h; exact ⟨by simp [bQ],fun k r hk=>by simp at hk⟩
  | cons r rs ih =>
   intro xs h
   simp only [aWi] at h
   split at h
   ·cases h
   ·rename_i x hx
    split at h
    ·cases h
    ·rename_i xs' hs
     cases h
     obtain ⟨g1,g2⟩:=ih xs' hs
     refine ⟨by simp [bQ,g1],fun k r' hk=>?_⟩
     cases k with
     | zero=>simp at hk; subst hk; exact ⟨_,by simp [bQ],bD0 hT hx⟩
     | succ k =>
      simp at hk
      obtain ⟨y,hy,hy2⟩:=g2 k r' hk
      exact ⟨y,by simpa [bQ] using hy,hy2⟩
 obtain ⟨k1,k2⟩:=key _ _ h
 obtain ⟨vs,q1,q2⟩:=aX0 fn.results.toList (bQ ρ ids xs) k2 k1 w m i a hr ht
 have hmap:(fn.results.mapM (aUN a.tmps)).run P w=.ok vs.toArray w:=by
  rw [Array.mapM_eq_mapM_toList]
  simp only [map_eq_pure_bind,Sem.run_bind,q1,Result.andThen_ok,Sem.run_pure]
 have hlen:vs.length=xs.length:=by rw [VL.length q2,fE]
 rw [bAA]
 simp only [Sem.run_bind,hmap,Result.andThen_ok,Sem.run_pure]
 by_cases h1:xs.length=1
 ·match xs,h1 with
  | [x],_ =>
   match vs,hlen with
   | [v],_ =>
    simp only [bQ] at q2
    obtain ⟨v',vs',e1,e2,_⟩:=q2
    cases e1
    exact ⟨v,by simp,by simp only [aZv]; exact e2⟩
 ·refine ⟨.tuple vs.toArray,by rw [dif_neg (by simp [hlen,h1])],?_⟩
  have:aZv xs=.tup xs:=by
   match xs,h1 with
   | [],_=>rfl
   | [_],h1=>exact absurd rfl h1
   | _ :: _ :: _,_=>rfl
  rw [this]
  simp only [aL]
  exact ⟨vs,rfl,q2⟩

def bGn (P:Program) (fn:Func) (Q:AV→aN→Prop):lZ
 | .normal,t,s | .ret,t,s=>∀ w m i (a:Act),nX w m i s→TR m i t a→∃ v m' i' av s',(results fn a.tmps).run P w=.ok v w∧VR m' i' av v∧nX w m' i' s'∧Step w m i s w m' i' s'∧Q av s'
 | _,_,_=>False

theorem aUU {f:FuncId} {fn:Func} {c:Code} {args:List AV} {s:aN} {t:mA} {Q:AV→aN→Prop} (hf:P.funcs[f]?=some fn) (hb:fn.body=some c) (hn:Nat.ble args.length fn.ntmps=true)
  (ht:∀ k,t k=.any∨t k=aLZ args k) (h:AWp P fn.ntmps c (bGn P fn Q) t s):lO P f args s Q:=by
 intro w m i cargs h1 h2
 have hlen:=VL.length h2
 have hn':args.length≤fn.ntmps:=by simpa using hn
 refine calls_of_wp hf hb (wp_mono (h _ w m i h1 (TR.sub (t:=aLZ args) ?_ ht) ?_ rfl) ?_)
 ·intro k
  simp only [aLZ]
  cases hk:args[k]? with
  | none=>exact trivial
  | some c =>
   obtain ⟨v,h3,h4⟩:=VL.get h2 k c hk
   have hlt:k<cargs.length:=(List.getElem?_eq_some_iff.1 h3).1
   have:(cargs.toArray++Array.replicate (fn.ntmps - cargs.toArray.size) undef).getD k undef=v:=by
    rw [Array.getD_eq_getD_getElem?,Array.getElem?_append_left (by simpa using hlt)]
    simp [h3]
   rw [Option.getD_some,this]; exact h4
 ·simp; omega
 ·intro e a' w' ⟨t',s',m',i',q,r2,r3,r4,r5,r6⟩
  cases e with
  | normal =>
   obtain ⟨v,m2,i2,av,s2,q1,q2,q3,q4,q5⟩:=q w' m' i' a' r5 r2
   exact ⟨r4,v,q1,v,av,s2,m2,i2,rfl,q5,q2,q3,r6.trans q4⟩
  | ret =>
   obtain ⟨v,m2,i2,av,s2,q1,q2,q3,q4,q5⟩:=q w' m' i' a' r5 r2
   exact ⟨r4,v,q1,v,av,s2,m2,i2,rfl,q5,q2,q3,r6.trans q4⟩
  | _=>exact q.elim

def fJ (T:TT) (results:Array ResultVar) (g:aP):aDf (Vals g.Δ):=fun _ e st ρ=>match e with
 | .normal | .ret=>match aWi T st results.toList with
  | none=>none
  | some xs=>match mt [g.res] [aZv xs] g.sto' g.Δ.length (idK g.nk) st.sto with
   | none=>none
   | some m=>match aWe g.nk m.K with
    | true=>vals m.sto ρ m.V 0 g.Δ
    | false=>none
 | _=>none

def aYg:Nat→List SV→List (Nat×SV)
 | _,[]=>[]
 | k,x :: xs=>(k,x) :: aYg (k+1) xs
theorem aYY {ρ:bW} {ids:jI}:∀ {l:List SV} {k j:Nat},(match lk (aYg k l) j with | some x=>aL ρ ids x | none=>.any)=if j<k then .any else ((bQ ρ ids l)[j - k]?).getD .any
 | [],k,j=>by simp [aYg,lk,bQ]
 | x :: xs,k,j=>by
  simp only [aYg,lk,bQ]
  by_cases e:j=k
  ·subst e
   rw [eB,if_pos rfl,if_neg (Nat.lt_irrefl _)]
   simp
  ·rw [fN e]
   simp only [Bool.false_eq_true,if_false]
   rw [aYY (l:=xs) (k:=k+1) (j:=j)]
   by_cases h1:j<k
   ·rw [if_pos (by omega),if_pos h1]
   ·rw [if_neg (by omega),if_neg h1]
    rw [show j - k=(j - (k+1))+1 from by omega,List.getElem?_cons_succ]

def bFG (g:aP):St:={ live:=aYg 0 g.args,sto:=g.sto,nv:=g.Γ.length,nk:=g.nk+g.nr }
def fx (X:XT) (env:List aP) (g:aP) (fn:Func) (H:aF (Vals g.Δ)) (c:Code) (fuel:Nat) (x:Vals g.Γ):Option (Vals g.Δ) :=
 sx X env fn.ntmps g.nk H c (fJ X.T fn.results g) fuel (bFG g) (hQ g.Γ x)

theorem bGw {X:XT} (hX:XOk P X) (hmix:P.follows .mixedOrders=true) {env:List aP} {fuel:Nat} (henv:∀ fuel',fuel'≤fuel→∀ g∈env,aE P g fuel') {g:aP} {fn:Func} {H:aF (Vals g.Δ)} {c:Code}
  (hf:P.funcs[g.fid]?=some fn) (hb:fn.body=some c) (hn:Nat.ble g.args.length fn.ntmps=true) (hL:rR X env fn.ntmps g.nk H c (fJ X.T fn.results g)) (ids:jI) (x:Vals g.Γ) (y:Vals g.Δ)
  (h:fx X env g fn H c fuel x=some y):lO P g.fid (bQ (hQ g.Γ x) ids g.args) (bL g.sto (hQ g.Γ x) ids)
   (fun av s=>∃ ids',(∀ k,k<g.nk→ids' k=ids k)∧av=aL (hQ g.Δ y) ids' g.res∧s=bL g.sto' (hQ g.Δ y) ids'):=by
 refine aUU (t:=eA (bFG g) (hQ g.Γ x) ids) hf hb (by rw [fE]; exact hn) (fun k=>.inr ?_) ?_
 ·have:=aYY (ρ:=hQ g.Γ x) (ids:=ids) (l:=g.args) (k:=0) (j:=k)
  simp only [eA,bFG,aLZ]
  rw [if_neg (Nat.not_lt_zero _),Nat.sub_zero] at this
  exact this
 ·refine bJc hX hmix henv (nk0:=g.nk) (ids0:=ids) c fuel (Nat.le_refl _) (fJ X.T fn.results g) (fun y=>bGn P fn fun av s=>∃ ids',(∀ k,k<g.nk→ids' k=ids k)∧av=aL (hQ g.Δ y) ids' g.res∧s=bL g.sto' (hQ g.Δ y) ids') hL ?_ fuel (Nat.le_refl _) (bFG g) (hQ g.Γ x) ids y (Nat.le_add_right _ _) (fun _ _=>rfl) h
  intro fuel' _ e st ρ ids' y _ hi h
  have main:(match aWi X.T st fn.results.toList with
   | none=>none
   | some xs=>match mt [g.res] [aZv xs] g.sto' g.Δ.length (idK g.nk) st.sto with
    | none=>none
    | some m=>match aWe g.nk m.K with
     | true=>vals m.sto ρ m.V 0 g.Δ
     | false=>none)=some y→∀ w m i (a:Act),nX w m i (bL st.sto ρ ids')→TR m i (eA st ρ ids') a→∃ v m' i' av s',(results fn a.tmps).run P w=.ok v w∧VR m' i' av v∧nX w m' i' s'∧Step w m i (bL st.sto ρ ids') w m' i' s' ∧
      ∃ ids'',(∀ k,k<g.nk→ids'' k=ids k)∧av=aL (hQ g.Δ y) ids'' g.res∧s'=bL g.sto' (hQ g.Δ y) ids'':=by
   intro h w mu i a hr ht
   split at h
   ·cases h
   ·rename_i xs hxs
    split at h
    ·cases h
    ·rename_i m hm
     split at h
     ·rename_i hsame
      obtain ⟨hchk,hasg,⟨used,hsto⟩,ks,hfrz⟩:=bCN hm
      obtain ⟨v,hv1,hv2⟩:=bCX hX.tt (ids:=ids') hxs w mu i a hr ht
      have sh:=iQ.frzL (t:=fun _=>.any) (ρ:=ρ) (ids:=ids') ks st.sto []
      simp only [List.nil_append] at sh
      rw [← hfrz] at sh
      obtain ⟨m1,i1,r1,r2,r3⟩:=sh w mu i a hr (fun _=>trivial)
      obtain ⟨q1,q2,q3,q4,q5⟩:=aTe r1 h hasg hsto
      simp only [aNX,Bool.and_true] at hchk
      exact ⟨v,m1,i1,_,_,hv1,q1 _ _ hchk v (VR.mono r3.mu r3.io _ _ hv2),q3.sub (List.sublist_append_left _ _),r3.trans (Step.same fun p hp=>q4 p (List.mem_append_left _ hp)),
       aIQ m.K ids',(fun k hk=>by rw [aPK (aTQ hsame hk)]; exact hi k hk),rfl,rfl⟩
     ·cases h
  cases e <;> first | (cases h; done) | exact main h
end
end Go.Sx

/- The executor, part 11: what is asked of a function's text. -/
namespace Go.Sx
open Go Go.Am

section
variable {P:Program}

theorem aZ {X:XT} (hX:XOk P X) (hmix:P.follows .mixedOrders=true) {env:List aP} {K:Nat} (henv:∀ k,k<K→∀ g∈env,aE P g k) {g:aP} {fn:Func} {H:aF (Vals g.Δ)} {c:Code}
  (hf:P.funcs[g.fid]?=some fn) (hb:fn.body=some c) (hname:(fn.name == "runtime.NumGoroutine")=false) (hn:Nat.ble g.args.length fn.ntmps=true)
  (hL:rR X env fn.ntmps g.nk H c (fJ X.T fn.results g)) (h0:∀ x,g.f 0 x=none) (hs:∀ k x,g.f (k+1) x=fx X env g fn H c k x):aE P g K:=by
 refine ⟨⟨fn,hf,by rw [hb]; rfl,hname⟩,fun ids x y h=>?_⟩
 cases K with
 | zero=>rw [h0] at h; cases h
 | succ k =>
  rw [hs] at h
  exact bGw hX hmix (fun k' hk'=>henv k' (by omega)) hf hb hn hL ids x y h

theorem aG {X:XT} (hX:XOk P X) (hmix:P.follows .mixedOrders=true) {env:List aP} (henv:∀ k,∀ g∈env,aE P g k) {g:aP} {fn:Func} {H:aF (Vals g.Δ)} {c:Code}
  (hf:P.funcs[g.fid]?=some fn) (hb:fn.body=some c) (hname:(fn.name == "runtime.NumGoroutine")=false) (hn:Nat.ble g.args.length fn.ntmps=true)
  (hL:rR X env fn.ntmps g.nk H c (fJ X.T fn.results g)) (hs:∀ k x,g.f k x=fx X env g fn H c k x) (K:Nat):aE P g K:=by
 refine ⟨⟨fn,hf,by rw [hb]; rfl,hname⟩,fun ids x y h=>?_⟩
 rw [hs] at h
 exact bGw hX hmix (fun k' _=>henv k') hf hb hn hL ids x y h

def aB (P:Program) (k:Nat) (env:List aP):Prop:=∀ g∈env,aE P g k
theorem aB.nil {k:Nat}:aB P k []:=fun g hg=>by cases hg
theorem aB.cons {k:Nat} {g:aP} {env:List aP} (h:aE P g k) (t:aB P k env):aB P k (g :: env):=fun g' hg=>by
 rcases List.mem_cons.1 hg with rfl | hg
 ·exact h
 ·exact t g' hg

/-! ### the loops of a text, one by one -/
structure LP (R:Type) where
 cut:Bool
 key:Nat
 body:Code
 k:aDf R

variable {R:Type}
def xJ (X:XT) (env:List aP) (n nk0:Nat) (H:aF R):Code→aDf R→List (LP R)
 | .seq a b,k=>xJ X env n nk0 H a (bD7 (bEG nk0 H (keyOf b) (sx X env n nk0 H b)) k)++(match lk H.cuts (keyOf b) with
  | some _=>[⟨true,keyOf b,b,k⟩]
  | none=>[])++xJ X env n nk0 H b k
 | .cond _ a b,k=>xJ X env n nk0 H a k++xJ X env n nk0 H b k
 | .block id a,k=>xJ X env n nk0 H a (bCF id k)
 | .loop a,k=>match lk H.unr (keyOf a) with
  | some _=>[]
  | none=>match lk H.loops (keyOf a) with
   | some L=>⟨false,keyOf a,a,aYr nk0 L k⟩ :: xJ X env n nk0 H a (aYr nk0 L k)
   | none=>[]
 | _,_=>[]

def aCb (H:aF R):Code→Bool
 | .seq a b=>aCb H a && aCb H b
 | .cond _ a b=>aCb H a && aCb H b
 | .block _ a=>aCb H a
 | .loop a=>match lk H.unr (keyOf a) with
  | some _=>aCb.noL H a
  | none=>aCb H a
 | _=>true
where noL (H:aF R):Code→Bool
 | .seq a b=>noL H a && noL H b && (match lk H.cuts (keyOf b) with
  | some _=>false
  | none=>true)
 | .cond _ a b=>noL H a && noL H b
 | .block _ a=>noL H a
 | .loop _=>false
 | _=>true

theorem bIp {X:XT} {env:List aP} {n nk0:Nat} {H:aF R}:∀ {c:Code} {k:aDf R},aCb.noL H c=true→rR X env n nk0 H c k:=by
 intro c
 induction c with
 | seq a b iha ihb =>
  intro k h
  simp only [aCb.noL,Bool.and_eq_true] at h
  refine ⟨iha h.1.1,?_,ihb h.1.2⟩
  cases hl:lk H.cuts (keyOf b) with
  | none=>trivial
  | some L=>rw [hl] at h; cases h.2
 | cond _ a b iha ihb=>intro k h; simp only [aCb.noL,Bool.and_eq_true] at h; exact ⟨iha h.1,ihb h.2⟩
 | block _ a ih=>intro k h; simp only [aCb.noL] at h; exact ih h
 | loop a _=>intro k h; simp [aCb.noL] at h
 | _=>intro k _; trivial

def LP.find (H:aF R) (p:LP R):Option (LH R):=match p.cut with
 | true=>lk H.cuts p.key
 | false=>lk H.loops p.key
def LEq (X:XT) (env:List aP) (n nk0:Nat) (H:aF R) (p:LP R):Prop:=match p.find H with
 | some L=>(∀ x,L.F 0 x=none)∧∀ fuel x,L.F (fuel+1) x=sx X env n nk0 H p.body p.k fuel (aK6 L) (hQ L.Γ x)
 | none=>True

theorem bC4 {X:XT} {env:List aP} {n nk0:Nat} {H:aF R}:∀ {c:Code} {k:aDf R},aCb H c=true→(∀ p∈xJ X env n nk0 H c k,LEq X env n nk0 H p)→rR X env n nk0 H c k:=by
 intro c
 induction c with
 | seq a b iha ihb =>
  intro k hf h
  simp only [aCb,Bool.and_eq_true] at hf
  refine ⟨iha hf.1 fun p hp=>h p (List.mem_append_left _ (List.mem_append_left _ hp)),?_,ihb hf.2 fun p hp=>h p (List.mem_append_right _ hp)⟩
  simp only [xJ] at h
  cases hl:lk H.cuts (keyOf b) with
  | none=>trivial
  | some L =>
   rw [hl] at h
   have:=h ⟨true,keyOf b,b,k⟩ (List.mem_append_left _ (List.mem_append_right _ (by simp)))
   unfold LEq LP.find at this
   simp only [hl] at this
   exact this
 | cond _ a b iha ihb =>
  intro k hf h
  simp only [aCb,Bool.and_eq_true] at hf
  exact ⟨iha hf.1 fun p hp=>h p (List.mem_append_left _ hp),ihb hf.2 fun p hp=>h p (List.mem_append_right _ hp)⟩
 | block _ a ih=>intro k hf h; simp only [aCb] at hf; exact ih hf h
 | loop a ih =>
  intro k hf h
  simp only [aCb] at hf
  simp only [xJ] at h
  simp only [rR]
  split
  ·rename_i N hN
   rw [hN] at hf
   exact fun k'=>bIp hf
  ·rename_i hN
   rw [hN] at hf h
   simp only at hf h
   split
   ·rename_i L hl
    rw [hl] at h
    simp only at h
    refine ⟨?_,ih hf fun p hp=>h p (List.mem_cons_of_mem _ hp)⟩
    have:=h _ List.mem_cons_self
    unfold LEq LP.find at this
    simp only [hl] at this
    exact this
   ·trivial
 | _=>intro k _ _; trivial

def gR (X:XT) (env:List aP) (n nk0:Nat) (H:aF R) (c:Code) (k:aDf R) (i:Nat) (L:LH R) (fuel:Nat) (x:Vals L.Γ):Option R:=match (xJ X env n nk0 H c k)[i]? with
 | some p=>sx X env n nk0 H p.body p.k fuel (aK6 L) (hQ L.Γ x)
 | none=>none
def bIM (X:XT) (env:List aP) (n nk0:Nat) (H:aF R) (c:Code) (k:aDf R) (i:Nat):Option (LH R):=match (xJ X env n nk0 H c k)[i]? with
 | some p=>p.find H
 | none=>none

def aC (X:XT) (env:List aP) (n nk0:Nat) (H:aF R) (c:Code) (k:aDf R) (m:Nat):Prop:=∀ i,i<m→∀ p,(xJ X env n nk0 H c k)[i]?=some p→LEq X env n nk0 H p
theorem aC.zero {X:XT} {env:List aP} {n nk0:Nat} {H:aF R} {c:Code} {k:aDf R}:aC X env n nk0 H c k 0:=fun i hi=>by omega
theorem aC.succ {X:XT} {env:List aP} {n nk0:Nat} {H:aF R} {c:Code} {k:aDf R} {m:Nat} (h:aC X env n nk0 H c k m) (L:LH R) (hk:bIM X env n nk0 H c k m=some L) (h0:∀ x,L.F 0 x=none)
  (hs:∀ fuel x,L.F (fuel+1) x=gR X env n nk0 H c k m L fuel x):aC X env n nk0 H c k (m+1):=by
 intro i hi p hp
 by_cases e:i=m
 ·subst e
  unfold bIM at hk
  rw [hp] at hk
  simp only at hk
  unfold LEq
  rw [hk]
  refine ⟨h0,fun fuel x=>?_⟩
  rw [hs]
  unfold gR
  rw [hp]
 ·exact h i (by omega) p hp
theorem aC.all {X:XT} {env:List aP} {n nk0:Nat} {H:aF R} {c:Code} {k:aDf R} {m:Nat} (h:aC X env n nk0 H c k m) (hf:aCb H c=true) (hl:Nat.ble (xJ X env n nk0 H c k).length m=true):rR X env n nk0 H c k :=
 bC4 hf fun p hp=>by
  obtain ⟨i,hi⟩:=List.getElem?_of_mem hp
  have:=(List.getElem?_eq_some_iff.1 hi).1
  have:=Nat.le_of_ble_eq_true hl
  exact h i (by omega) p hi
end
end Go.Sx
namespace Go.Sx
open Go Go.Am
def aA (fn:Func):Code:=match fn.body with
 | some c=>c
 | none=>.skip
end Go.Sx

/- The executor, part 12: functions whose contract is proved by hand, out of pure contracts. -/
namespace Go.Sx
open Go Go.Am

section
variable {P:Program}

theorem aT6 {fid:Nat} {f:Nat→List UInt8→List UInt8→Option Int} {K:Nat} (hfn:∃ fn,P.funcs[fid]?=some fn∧fn.body.isNone=false∧(fn.name == "runtime.NumGoroutine")=false)
  (h:∀ a b y,f K a b=some y→∀ w,Calls P fid #[.string ⟨a.toArray⟩,.string ⟨b.toArray⟩] w fun e w'=>e=.returned (.int .i64 y)∧w'=w) :
  aE P { fid:=fid,Γ:=[.str,.str],args:=[(.var 0),(.var 1)],sto:=[],nk:=0,nr:=0,Δ:=[(.int .i64)],res:=(.var 0),sto':=[],nk':=0,f:=fun k x=>f k x.1 x.2 } K:=by
 refine ⟨hfn,fun ids x y hy=>?_⟩
 intro w m i cargs hr hv
 obtain ⟨v1,l1,rfl,h1,v2,l2,rfl,h2,rfl⟩:=hv
 cases h1
 cases h2
 refine (h _ _ _ hy w).mono ?_
 rintro e w' ⟨rfl,rfl⟩
 exact ⟨_,_,_,m,i,rfl,⟨ids,fun _ _=>rfl,rfl,rfl⟩,rfl,hr,Step.refl _ _ _ _⟩
end
end Go.Sx

