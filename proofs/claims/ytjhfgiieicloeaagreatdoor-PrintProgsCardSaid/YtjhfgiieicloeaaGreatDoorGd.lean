/- Joined texts: Sx7, Sx8, Sx9, Sx10, Sx11, Sx12. -/
import Derived.Test.YtjhfgiieicloeaaGreatDoorGc
/- The executor, part 7: new objects; objects written; rows that grow. -/
namespace Go.Sx
open Go Go.Am

def updI (ids:Ids) (nk id:Nat):Ids:=fun k=>if Nat.beq k nk then id else ids k
theorem updI_agree (ids:Ids) (nk id:Nat):Ids.agree nk ids (updI ids nk id):=fun j hj=>by unfold updI; rw [nbeq_ne (by omega)]; rfl
theorem updI_self (ids:Ids) (nk id:Nat):updI ids nk id nk=id:=by unfold updI; rw [nbeq_self,if_pos rfl]

section
variable {P:Program} {T:TT} {R:Type}

def newO (st:St) (ρ:Rho) (sto1:List (Nat×OB)) (n:Nat) (ds:List Dyn) (ob:OB) (sv:SV) (kk:SV→St→Rho→Option R):Option R :=
  (match (st.ok && stoOk st.nv st.nk sto1:Bool) with | true=>kk sv { live:=st.live,sto:=(st.nk,ob) :: sto1,nv:=st.nv+n,nk:=st.nk+1 } (updL ρ st.nv ds) | false=>none)

theorem newO_ok {st:St} {ρ:Rho} {ids:Ids} {sto1:List (Nat×OB)} {n:Nat} {ds:List Dyn} {ob:OB} {sv:SV} {kk:SV→St→Rho→Option R} {r:R} {o:Oper} {Rr:AV→Store→Prop}
    (h:newO st ρ sto1 n ds ob sv kk=some r) (ha:AOp P o (tauE st ρ ids) (stoE st.sto ρ ids) Rr)
    (hR:∀ av s',Rr av s'→∃ id,av=evSV (updL ρ st.nv ds) (updI ids st.nk id) sv∧s'=(id,evOB (updL ρ st.nv ds) (updI ids st.nk id) ob) :: stoE sto1 ρ ids):HOk P o st ρ ids kk r:=by
  unfold newO at h
  split at h
  · rename_i hb
    simp only [Bool.and_eq_true,St.ok] at hb
    obtain ⟨⟨hlive,hst⟩,hs1⟩:=hb
    refine ⟨Rr,ha,fun av s' hr=>?_⟩
    obtain ⟨id,h1,h2⟩:=hR av s' hr
    refine ⟨sv,_,_,updI ids st.nk id,h,h1,?_,tauE_agree (st:=st) (updL_agree _ _ _) (updI_agree _ _ _) hlive,fun key o' q1 q2=>?_,updI_agree _ _ _,Nat.le_succ _⟩
    · have e:=stoE_agree (updL_agree ρ st.nv ds) (updI_agree ids st.nk id) hs1
      rw [h2]
      unfold stoE at e ⊢
      rw [List.map_cons,e,updI_self]
    · obtain ⟨g1,g2⟩:=stoOk_lk hst q1
      rw [updI_agree ids st.nk id key g1,evOB_agree (updL_agree ρ st.nv ds) (updI_agree ids st.nk id) g2]
  · cases h

def allocx (T:TT) (e:Nat) (st:St) (ρ:Rho) (kk:SV→St→Rho→Option R):Option R:=match lk T.zero e with
  | none=>none
  | some zs=>(match (zs.all Value.oneCell':Bool) with
    | true=>(match cstL zs with
      | none=>none
      | some cs=>newO st ρ st.sto 0 [] (.cells e cs.length cs false) (.ref st.nk 0) kk)
    | false=>none)
theorem cstL_len:∀ {vs:List Value} {xs:List SV},cstL vs=some xs→xs.length=vs.length
  | [],xs,h=>by cases h; rfl
  | v :: vs,xs,h=>by
    simp only [cstL] at h
    split at h
    · cases h
    · split at h
      · cases h
      · rename_i xs' hs; cases h; simp [cstL_len hs]
theorem allocx_ok (hT:TTok P T) {o:Oper} {e:Nat} {st:St} {ρ:Rho} {ids:Ids} {kk:SV→St→Rho→Option R} {r:R} (ho:o.op=.alloc e) (h:allocx T e st ρ kk=some r):HOk P o st ρ ids kk r:=by
  unfold allocx at h
  split at h
  · cases h
  · rename_i zs hz
    split at h
    · rename_i h1
      split at h
      · cases h
      · rename_i cs hc
        refine newO_ok h (aop_alloc hT ho hz h1) ?_
        rintro av s' ⟨k,rfl,rfl⟩
        refine ⟨k,by simp only [evSV,updI_self],?_⟩
        simp only [evOB,Bool.false_eq_true,if_false]
        rw [cstL_ok hc,cstL_len hc]
    · cases h

def boxx (e:Nat) (x:SV) (st:St) (ρ:Rho) (kk:SV→St→Rho→Option R):Option R:=match x with
  | .agg cs=>newO st ρ st.sto 0 [] (.cells e cs.length cs false) (.ref st.nk 0) kk
  | x=>(match (scal ρ x:Bool) with | true=>newO st ρ st.sto 0 [] (.cells e 1 [x] false) (.ref st.nk 0) kk | false=>none)
theorem okSV_live {st:St} {x:Operand} {sv:SV} (h:liveOk st.nv st.nk st.live=true) (hx:opd' st.live x=some sv):SV.ok st.nv st.nk sv=true:=by
  cases x with
  | tmp k=>exact liveOk_lk h hx
  | const v =>
    simp only [opd'] at hx
    unfold cst at hx
    split at hx <;> cases hx <;> rfl
  | func f=>cases hx; rfl
  | global g=>cases hx
theorem boxx_ok {o:Oper} {e:Nat} {xo:Operand} {x:SV} {st:St} {ρ:Rho} {ids:Ids} {kk:SV→St→Rho→Option R} {r:R} (ho:o.op=.box e xo) (hx:opd' st.live xo=some x) (h:boxx e x st ρ kk=some r):HOk P o st ρ ids kk r:=by
  have hok:∀ {sto1 n ds ob sv},newO st ρ sto1 n ds ob sv kk=some r→liveOk st.nv st.nk st.live=true:=fun h=>by
    unfold newO at h
    split at h
    · rename_i hb; simp only [Bool.and_eq_true,St.ok] at hb; exact hb.1.1
    · cases h
  unfold boxx at h
  split at h
  · rename_i cs
    have hl:=okSV_live (hok h) hx
    simp only [SV.ok] at hl
    refine newO_ok h (aop_box (cs:=evSVs ρ ids cs) ho (by rw [opd_ok hx]; simp only [evSV])) ?_
    rintro av s' ⟨k,rfl,rfl⟩
    refine ⟨k,by simp only [evSV,updI_self],?_⟩
    simp only [evOB,Bool.false_eq_true,if_false]
    rw [evSVs_agree (updL_agree _ _ _) (updI_agree _ _ _) cs hl,evSVs_len]
  · rename_i hne
    split at h
    · rename_i hsc
      have hl:=okSV_live (hok h) hx
      have hs:=scal_ok (ids:=ids) hsc
      refine newO_ok h (aop_box (cs:=[evSV ρ ids x]) ho (by
        rw [opd_ok hx]
        split
        · rename_i cs hcs; rw [hcs] at hs; cases hs
        · rw [if_pos hs])) ?_
      rintro av s' ⟨k,rfl,rfl⟩
      refine ⟨k,by simp only [evSV,updI_self],?_⟩
      simp only [evOB,Bool.false_eq_true,if_false,evSVs]
      rw [evSV_agree (updL_agree _ _ _) (updI_agree _ _ _) x hl]
      rfl
    · cases h

/-! ### a row's list is said anew in all that speaks of it -/
mutual
def reRow (key nv:Nat):SV→SV
  | .row k j=>if Nat.beq k key then .row k nv else .row k j
  | .ptr cs=>.ptr (reRows key nv cs)
  | .agg cs=>.agg (reRows key nv cs)
  | .tup cs=>.tup (reRows key nv cs)
  | .slc cs n f=>.slc (reRows key nv cs) n f
  | .fn f a b=>.fn f (reRows key nv a) (reRows key nv b)
  | x=>x
def reRows (key nv:Nat):List SV→List SV
  | []=>[]
  | x :: xs=>reRow key nv x :: reRows key nv xs
end
mutual
def rowIs (key j:Nat):SV→Bool
  | .row k j'=>if Nat.beq k key then Nat.beq j' j else true
  | .ptr cs=>rowsIs key j cs
  | .agg cs=>rowsIs key j cs
  | .tup cs=>rowsIs key j cs
  | .slc cs _ _=>rowsIs key j cs
  | .fn _ a b=>rowsIs key j a && rowsIs key j b
  | _=>true
def rowsIs (key j:Nat):List SV→Bool
  | []=>true
  | x :: xs=>rowIs key j x && rowsIs key j xs
end
section
variable {ρ:Rho} {ids:Ids} {key j nv:Nat} (hl:dlen (ρ nv)=dlen (ρ j))
include hl
mutual
theorem reRow_ok:∀ (x:SV),rowIs key j x=true→evSV ρ ids (reRow key nv x)=evSV ρ ids x
  | .row k j',h=>by
    simp only [rowIs] at h
    simp only [reRow]
    split at h
    · rename_i hk
      rw [if_pos hk]
      simp only [evSV]
      rw [hl,Nat.eq_of_beq_eq_true h]
    · rename_i hk
      rw [if_neg hk]
  | .ptr cs,h=>by simp only [rowIs] at h; simp only [reRow,evSV]; rw [reRows_ok cs h]
  | .agg cs,h=>by simp only [rowIs] at h; simp only [reRow,evSV]; rw [reRows_ok cs h]
  | .tup cs,h=>by simp only [rowIs] at h; simp only [reRow,evSV]; rw [reRows_ok cs h]
  | .slc cs n f,h=>by simp only [rowIs] at h; simp only [reRow,evSV]; rw [reRows_ok cs h]
  | .fn f a b,h=>by
    simp only [rowIs,Bool.and_eq_true] at h
    simp only [reRow,evSV]
    rw [reRows_ok a h.1,reRows_ok b h.2]
  | .var _,_ | .len _,_ | .int _ _,_ | .bool _,_ | .str _,_ | .nilp,_ | .nils,_ | .nilf,_ | .nilm,_ | .und,_ | .any,_ | .ref _ _,_ | .elt _ _ _,_ | .mp _,_ | .it _,_=>by simp only [reRow]
theorem reRows_ok:∀ (x:List SV),rowsIs key j x=true→evSVs ρ ids (reRows key nv x)=evSVs ρ ids x
  | [],_=>by have _:=hl; simp only [reRows]
  | x :: xs,h=>by
    simp only [rowsIs,Bool.and_eq_true] at h
    simp only [reRows,evSVs]
    rw [reRow_ok x h.1,reRows_ok xs h.2]
end
end
def reLive (key j nv:Nat):List (Nat×SV)→Option (List (Nat×SV))
  | []=>some []
  | p :: l=>match rowIs key j p.2 with
    | true=>(reLive key j nv l).bind fun l'=>some ((p.1,reRow key nv p.2) :: l')
    | false=>reLive key j nv l
theorem reLive_lk {ρ:Rho} {ids:Ids} {key j nv:Nat} (hl:dlen (ρ nv)=dlen (ρ j)):∀ {l l':List (Nat×SV)},reLive key j nv l=some l'→(l.all fun p=>rowIs key j p.2)=true →
    ∀ k,(match lk l' k with | some x=>evSV ρ ids x | none=>AV.any)=(match lk l k with | some x=>evSV ρ ids x | none=>AV.any)
  | [],l',h,_,k=>by cases h; rfl
  | p :: l,l',h,ha,k=>by
    simp only [List.all_cons,Bool.and_eq_true] at ha
    simp only [reLive,ha.1] at h
    obtain ⟨l2,h1,h2⟩:=bind_some' h
    cases h2
    have ih:=reLive_lk (ids:=ids) hl h1 ha.2 k
    unfold lk
    by_cases e:k=p.1
    · subst e
      rw [nbeq_self,if_pos rfl,if_pos rfl]
      exact reRow_ok hl p.2 ha.1
    · rw [nbeq_ne e]
      exact ih
def allRow (key j:Nat):List (Nat×SV)→Bool
  | []=>true
  | p :: l=>rowIs key j p.2 && allRow key j l
theorem allRow_all {key j:Nat}:∀ {l:List (Nat×SV)},allRow key j l=true→(l.all fun p=>rowIs key j p.2)=true
  | [],_=>rfl
  | p :: l,h=>by
    simp only [allRow,Bool.and_eq_true] at h
    simp only [List.all_cons,h.1,allRow_all h.2,Bool.and_self]

def reSto (key j nv:Nat):List (Nat×OB)→List (Nat×OB)
  | []=>[]
  | (k,.cells e sz cs fz) :: l=>(match rowsIs key j cs with
    | true=>(k,.cells e sz (reRows key nv cs) fz)
    | false=>(k,.cells e sz cs fz)) :: reSto key j nv l
  | p :: l=>p :: reSto key j nv l
theorem reRows_len (key nv:Nat):∀ cs:List SV,(reRows key nv cs).length=cs.length
  | []=>by simp only [reRows]
  | _ :: cs=>by simp only [reRows,List.length_cons,reRows_len key nv cs]
theorem reSto_eq {ρ:Rho} {ids:Ids} {key j nv:Nat} (hl:dlen (ρ nv)=dlen (ρ j)):∀ l:List (Nat×OB),stoE (reSto key j nv l) ρ ids=stoE l ρ ids
  | []=>by simp only [reSto]
  | (k,.cells e sz cs fz) :: l=>by
    have ih:=reSto_eq (ids:=ids) (key:=key) hl l
    unfold stoE at ih
    simp only [reSto]
    split
    · rename_i h
      have h0:evOB ρ ids (.cells e sz (reRows key nv cs) fz)=evOB ρ ids (.cells e sz cs fz):=by simp only [evOB,reRows_ok hl cs h,reRows_len]
      simp only [stoE,List.map_cons,h0]
      rw [ih]
    · simp only [stoE,List.map_cons,ih]
  | (_,.list _ _ _) :: l | (_,.map _) :: l | (_,.iter _ _) :: l | (_,.glob _ _) :: l=>by
    have ih:=reSto_eq (ids:=ids) (key:=key) hl l
    unfold stoE at ih
    simp only [reSto,stoE,List.map_cons,ih]

/-! ### stores -/
def storex (T:TT) (ty:Nat) (a y:SV) (st:St) (ρ:Rho) (kk:SV→St→Rho→Option R):Option R:=match a with
  | .ref key off=>match lk st.sto key with
    | some (.cells e sz cs false)=>match T.lay ty with
      | some (true,n)=>match y with
        | .agg ds=>(match (Nat.beq ds.length n && Nat.ble (off+ds.length) cs.length && st.ok:Bool) with | true=>kk .any { st with sto:=setK key (.cells e sz (cs.take off++ds++cs.drop (off+ds.length)) false) st.sto } ρ | false=>none)
        | _=>none
      | some (false,_)=>(match (scal ρ y && Nat.ble (off+1) cs.length && st.ok:Bool) with | true=>kk .any { st with sto:=setK key (.cells e sz (cs.take off++[y]++cs.drop (off+1)) false) st.sto } ρ | false=>none)
      | none=>none
    | _=>none
  | .elt key sz i=>match lk st.sto key with
    | some (.list e j none)=>match listOf ρ (.var j),intOf ρ i,T.lay ty with
      | some ⟨τ,l⟩,some n,some (false,_)=>(match (Nat.beq sz 1 && Nat.beq τ.n 1 && !(isP τ) && scal ρ y:Bool) with
        | true=>(match frzL (keysR 20 st.sto y) st.sto with
        | sto1=>(match lk sto1 key with
          | some (.list e' j' none)=>(match (Nat.beq e e' && Nat.beq j j' && (st.ok && stoOk st.nv st.nk sto1) && allRow key j st.live:Bool) with
            | true=>(asTy 40 (eraseK key sto1) ρ τ y).bind fun v=>(getI l n).bind fun _=>(reLive key j st.nv st.live).bind fun live' =>
                kk .any { live:=live',sto:=reSto key j st.nv (setK key (.list e st.nv none) sto1),nv:=st.nv+1,nk:=st.nk } (updL ρ st.nv [⟨.list false τ,l.set n.toNat v⟩])
            | false=>none)
          | _=>none))
        | false=>none)
      | _,_,_=>none
    | _=>none
  | _=>none

theorem storex_ok (hT:TTok P T) {o:Oper} {ty:Nat} {ao yo:Operand} {a y:SV} {st:St} {ρ:Rho} {ids:Ids} {kk:SV→St→Rho→Option R} {r:R} (ho:o.op=.store ty ao yo) (_hne:∀ k,yo=.tmp k→ao≠.tmp k)
    (ha:opd' st.live ao=some a) (hy:opd' st.live yo=some y) (h:storex T ty a y st ρ kk=some r):HOk P o st ρ ids kk r:=by
  unfold storex at h
  split at h
  · rename_i key off
    split at h
    · rename_i e sz cs hk
      have fin:∀ (ds:List SV),(match T.lay ty with | some (true,n)=>(match ev (tauE st ρ ids) yo with | .agg ds=>if Nat.beq ds.length n then some ds else none | _=>none) | some (false,_)=>(if (ev (tauE st ρ ids) yo).scalar then some [ev (tauE st ρ ids) yo] else none) | none=>none)=some (evSVs ρ ids ds) →
          Nat.ble (off+ds.length) cs.length=true→st.ok=true→kk .any { st with sto:=setK key (.cells e sz (cs.take off++ds++cs.drop (off+ds.length)) false) st.sto } ρ=some r→HOk P o st ρ ids kk r:=by
        intro ds hl hb hok h
        obtain ⟨h1,h2,_⟩:=setK_idx (ρ:=ρ) (ids:=ids) (o':=.cells e sz (cs.take off++ds++cs.drop (off+ds.length)) false) hk
        simp only [evOB,Bool.false_eq_true,if_false] at h1
        refine ⟨_,aop_storeRef (id:=ids key) (off:=off) (j:=idxK key st.sto) hT ho (by rw [opd_ok ha]; simp only [evSV]) h1 hl (by rw [evSVs_len,evSVs_len]; simpa using hb),?_⟩
        rintro av s' ⟨rfl,rfl⟩
        refine ⟨_,_,_,ids,h,by simp only [evSV],?_,rfl,fun key' ob q1 q2=>rfl,fun _ _=>rfl,Nat.le_refl _⟩
        simp only
        rw [← h2]
        simp only [evOB,Bool.false_eq_true,if_false]
        simp only [evSVs_map,List.map_append,List.map_take,List.map_drop,List.length_map]
      split at h
      · rename_i n hl
        split at h
        · rename_i ds
          split at h
          · rename_i hb
            simp only [Bool.and_eq_true] at hb
            exact fin ds (by rw [hl,opd_ok hy]; simp only [evSV,evSVs_len,hb.1.1,if_true]) hb.1.2 hb.2 h
          · cases h
        · cases h
      · rename_i n hl
        split at h
        · rename_i hb
          simp only [Bool.and_eq_true] at hb
          exact fin [y] (by rw [hl,opd_ok hy]; simp only [evSVs,scal_ok hb.1.1,if_true]) hb.1.2 hb.2 h
        · cases h
      · cases h
    · cases h
  · rename_i key sz i
    split at h
    · rename_i e j hk
      split at h
      · rename_i τ l n m hl hn hlay
        split at h
        · rename_i hb
          simp only [Bool.and_eq_true,Bool.not_eq_true'] at hb
          obtain ⟨⟨⟨hsz,hτ⟩,hp⟩,hsc⟩:=hb
          simp only at h
          split at h
          · rename_i e' j' hk1
            split at h
            · rename_i hb2
              simp only [Bool.and_eq_true] at hb2
              obtain ⟨⟨⟨he,hj⟩,hok,hs1⟩,hall⟩:=hb2
              have he':=Nat.eq_of_beq_eq_true he
              have hj':=Nat.eq_of_beq_eq_true hj
              subst he'; subst hj'
              simp only [St.ok,Bool.and_eq_true] at hok
              obtain ⟨v,hv,h⟩:=bind_some' h
              obtain ⟨u,hu,h⟩:=bind_some' h
              obtain ⟨live',hlive',h⟩:=bind_some' h
              have hd:∃ f,ρ j=⟨.list f τ,l⟩:=by
                unfold listOf at hl
                simp only at hl
                split at hl
                · rename_i f' e' l' hd; cases hl; exact ⟨_,hd⟩
                · cases hl
              obtain ⟨f,hd⟩:=hd
              have hτ1:=Nat.eq_of_beq_eq_true hτ
              have hsz1:=Nat.eq_of_beq_eq_true hsz
              have hcell:∀ x:τ.D,τ.cells x=[τ.av x]:=fun x=>Ty.cells_scalar τ x (fun a b e=>by rw [e] at hp; cases hp) (fun a e=>by rw [e] at hp; cases hp)
              have hflat:∀ l:List τ.D,l.flatMap τ.cells=l.map τ.av:=fun l=>by
                rw [← flat1 τ.av l]; congr 1; funext x; exact hcell x
              have hm:m=1:=(TT.lay_inv hlay).choose_spec.2.2.2 rfl
              subst hm
              have hview:=asTy_view (ids:=ids) _ _ _ _ hv
              obtain ⟨h1,h2,h3⟩:=setK_idx (ρ:=ρ) (ids:=ids) (o':=.list e j none) hk1
              simp only [evOB,hd,fzLen,hτ1,hflat] at h1
              have hsub:∀ (ob:Nat×Ob),(stoE (eraseK key (frzL (keysR 20 st.sto y) st.sto)) ρ ids).Sublist ((stoE (frzL (keysR 20 st.sto y) st.sto) ρ ids).set (idxK key (frzL (keysR 20 st.sto y) st.sto)) ob):=by
                intro ob
                rw [← h3]
                have:∀ (s:Store) (j:Nat),(s.eraseIdx j).Sublist (s.set j ob):=by
                  intro s
                  induction s with
                  | nil=>intro j; simp
                  | cons p s ih =>
                    intro j
                    cases j with
                    | zero=>simp
                    | succ j=>simp only [List.eraseIdx_cons_succ,List.set_cons_succ]; exact (ih j).cons_cons _
                exact this _ _
              have hshift:Shift (fun _=>.any) (stoE st.sto ρ ids) (fun _=>.any) (stoE (frzL (keysR 20 st.sto y) st.sto) ρ ids):=by
                have:=Shift.frzL (t:=fun _=>.any) (ρ:=ρ) (ids:=ids) (keysR 20 st.sto y) st.sto []
                simpa using this
              refine ⟨_,AOp.shift hshift (aop_rowStore1 (g:=τ.av) (l:=l) (k:=n) (v:=u) (u:=v) (y':=evSV ρ ids y) (j:=idxK key (frzL (keysR 20 st.sto y) st.sto)) hT hu ho hlay
                (by rw [opd_ok ha]; simp only [evSV,hn,hsz1,Nat.mul_one]) (opd_ok hy) (hview.mono (hsub _)) (scal_ok hsc) h1),?_⟩
              rintro av s' ⟨rfl,rfl⟩
              have hagR:=updL_agree ρ st.nv [⟨.list false τ,l.set n.toNat v⟩]
              have hnew:updL ρ st.nv [⟨.list false τ,l.set n.toNat v⟩] st.nv=⟨.list false τ,l.set n.toNat v⟩:=by
                have:=updL_new ρ st.nv [⟨.list false τ,l.set n.toNat v⟩] 0 _ rfl
                rwa [Nat.add_zero] at this
              refine ⟨_,_,_,ids,h,by simp only [evSV],?_,?_,fun key' ob q1 q2=>?_,fun _ _=>rfl,Nat.le_refl _⟩
              · have hdl:dlen (updL ρ st.nv [⟨.list false τ,l.set n.toNat v⟩] st.nv)=dlen (updL ρ st.nv [⟨.list false τ,l.set n.toNat v⟩] j):=by
                  rw [hnew,hagR j (by have:=(stoOk_lk hs1 hk1).2; simp only [OB.ok] at this; exact blt_lt this),hd]
                  simp [dlen]
                have hall2:stoE (frzL (keysR 20 st.sto y) st.sto) (updL ρ st.nv [⟨.list false τ,l.set n.toNat v⟩]) ids=stoE (frzL (keysR 20 st.sto y) st.sto) ρ ids:=stoE_agree hagR (fun _ _=>rfl) hs1
                obtain ⟨g1,g2,g3⟩:=setK_idx (ρ:=updL ρ st.nv [⟨.list false τ,l.set n.toNat v⟩]) (ids:=ids) (o':=.list e st.nv none) hk1
                simp only
                rw [reSto_eq hdl,← g2,hall2]
                simp only [evOB,hnew,fzLen,hτ1,hflat]
              · have e0:=tauE_agree (st:=st) (i:=ids) (i':=ids) hagR (fun _ _=>rfl) hok.1
                rw [← e0]
                funext k
                refine reLive_lk (ids:=ids) (key:=key) (j:=j) (nv:=st.nv) ?_ hlive' (allRow_all hall) k
                rw [hnew,hagR j (by have:=(stoOk_lk hs1 hk1).2; simp only [OB.ok] at this; exact blt_lt this),hd]
                simp [dlen]
              · obtain ⟨g1,g2⟩:=stoOk_lk hok.2 q1
                rw [evOB_agree hagR (fun _ _=>rfl) g2]
            · cases h
          · cases h
        · cases h
      · cases h
    · cases h
  · cases h
end
end Go.Sx

/- The executor, part 8: rows that grow, rows that are made. -/
namespace Go.Sx
open Go Go.Am

section
variable {P:Program} {T:TT} {R:Type}

def isTmp:Operand→Option Nat
  | .tmp k=>some k
  | _=>none

def elemx (T:TT) (ty:Nat) (n:Nat):Option (Nat×Nat):=match lk T.kd ty with
  | some (.slice e)=>match lk T.sz e,lk T.zero e,lk T.by' e with
    | some sz,some zs,some by'=>if Nat.beq sz n && Nat.beq zs.length sz && zs.all Value.oneCell' && Nat.blt 0 by' then some (e,by') else none
    | _,_,_=>none
  | _=>none
theorem elemx_ok {ty n e by':Nat} (h:elemx T ty n=some (e,by')):lk T.kd ty=some (.slice e)∧lk T.sz e=some n∧(∃ zs,lk T.zero e=some zs∧Nat.beq zs.length n=true∧zs.all Value.oneCell'=true)∧lk T.by' e=some by'∧Nat.blt 0 by'=true:=by
  unfold elemx at h
  split at h
  · rename_i e0 hk
    split at h
    · rename_i sz zs by0 h1 h2 h3
      split at h
      · rename_i hb
        cases h
        simp only [Bool.and_eq_true] at hb
        have:=Nat.eq_of_beq_eq_true hb.1.1.1
        subst this
        exact ⟨hk,h1,⟨zs,h2,hb.1.1.2,hb.1.2⟩,h3,hb.2⟩
      · cases h
    · cases h
  · cases h

def appArg (st:St) (ρ:Rho) (τ:Ty) (y:SV):Option (List (Nat×OB)×List τ.D) :=
  (fun sto1=>(asTy 40 sto1 ρ (.list false τ) y).bind fun d=>some (sto1,d)) (frzL (keysR 20 st.sto y) st.sto)

def apprx (T:TT) (ty:Nat) (key j:Nat) (yo:Operand) (y:SV) (st:St) (ρ:Rho) (kk:SV→St→Rho→Option R):Option R :=
  match listOf ρ (.var j) with
  | none=>none
  | some ⟨τ,l⟩=>match elemx T ty τ.n,isTmp yo with
    | some (e,by'),some _=>(appArg st ρ τ y).bind fun p=>match lk p.1 key with
      | some (.list e' j' fz)=>(match (Nat.beq e e' && Nat.beq j j':Bool) with
        | true=>(appL by' l p.2).bind fun v=>(match (stoOk st.nv st.nk p.1:Bool) with | true=>newO st ρ (eraseK key p.1) 1 [⟨.list false τ,v⟩] (.list e st.nv fz) (.row st.nk st.nv) kk | false=>none)
        | false=>none)
      | _=>none
    | _,_=>none

theorem listOf_var {ρ:Rho} {j:Nat} {τ:Ty} {l:List τ.D} (hl:listOf ρ (.var j)=some ⟨τ,l⟩):∃ f,ρ j=⟨.list f τ,l⟩:=by
  unfold listOf at hl
  simp only at hl
  split at hl
  · rename_i f' e' l' hd; cases hl; exact ⟨_,hd⟩
  · cases hl

theorem appArg_ok {st:St} {ρ:Rho} {ids:Ids} {τ:Ty} {y:SV} {p} (h:appArg st ρ τ y=some p) :
    (∀ t,Shift t (stoE st.sto ρ ids) t (stoE p.1 ρ ids))∧View (stoE p.1 ρ ids) (evSV ρ ids y) (.slc (p.2.flatMap τ.cells) p.2.length false):=by
  unfold appArg at h
  obtain ⟨d,h1,h2⟩:=bind_some' h
  cases h2
  refine ⟨fun t=>?_,asTy_view _ _ _ _ h1⟩
  have:=Shift.frzL (t:=t) (ρ:=ρ) (ids:=ids) (keysR 20 st.sto y) st.sto []
  simpa using this

theorem ev_put_ne {t:Tau} {x:Operand} {k:Nat} {v:AV} (h:x≠.tmp k):ev (t.put (some k) v) x=ev t x:=by
  cases x with
  | tmp j =>
    have:j≠k:=fun e=>h (by rw [e])
    simp only [ev,Tau.put,nbeq_ne this]
    rfl
  | const v=>rfl
  | func f=>rfl
  | global g=>rfl
theorem ev_put_same {t:Tau} {k:Nat} {v:AV}:ev (t.put (some k) v) (.tmp k)=v:=by simp only [ev,Tau.put,nbeq_self,if_true]

theorem fzLen_agree {nv:Nat} {ρ ρ':Rho} {n:Nat} {fz:Option Nat} (hr:Rho.agree nv ρ ρ') {e j nk:Nat} (h:OB.ok nv nk (.list e j fz)=true):fzLen ρ' n fz=fzLen ρ n fz:=by
  cases fz with
  | none=>rfl
  | some z =>
    simp only [OB.ok,Bool.and_eq_true] at h
    simp only [fzLen]
    rw [hr z (blt_lt h.2)]

theorem updL_one (ρ:Rho) (nv:Nat) (d:Dyn):updL ρ nv [d] nv=d:=by
  have:=updL_new ρ nv [d] 0 _ rfl
  rwa [Nat.add_zero] at this

theorem apprx_ok (hT:TTok P T) {o:Oper} {ty:Nat} {xo yo:Operand} {key j:Nat} {y:SV} {st:St} {ρ:Rho} {ids:Ids} {kk:SV→St→Rho→Option R} {r:R} (ho:o.op=.call ⟨.builtin .append,#[xo,yo],#[ty,ty]⟩)
    (hne:∀ k,yo=.tmp k→xo≠.tmp k) (hx:opd' st.live xo=some (.row key j)) (hy:opd' st.live yo=some y) (h:apprx T ty key j yo y st ρ kk=some r):HOk P o st ρ ids kk r:=by
  unfold apprx at h
  split at h
  · cases h
  · rename_i τ l hl
    split at h
    · rename_i e by' ky he hky
      obtain ⟨hkd,hsz,⟨zs,hz,hzl,hz1⟩,hby,hb1⟩:=elemx_ok he
      obtain ⟨p,hp,h⟩:=bind_some' h
      obtain ⟨hshift,hview⟩:=appArg_ok (ids:=ids) hp
      split at h
      · rename_i e' j' fz hk
        split at h
        · rename_i hb
          simp only [Bool.and_eq_true] at hb
          have e1:=Nat.eq_of_beq_eq_true hb.1
          have e2:=Nat.eq_of_beq_eq_true hb.2
          subst e1; subst e2
          obtain ⟨v,hv,h⟩:=bind_some' h
          split at h
          · rename_i hpok
            obtain ⟨f,hd⟩:=listOf_var hl
            have hyo:yo=.tmp ky:=by
              cases yo <;> simp [isTmp] at hky
              rw [hky]
            obtain ⟨h1,h2,h3⟩:=setK_idx (ρ:=ρ) (ids:=ids) (o':=.list e j fz) hk
            simp only [evOB,hd] at h1
            have hop:=aop_appN (P:=P) (t:=(tauE st ρ ids).put (some ky) (.slc (p.2.flatMap τ.cells) p.2.length false)) (s:=stoE p.1 ρ ids) (g:=τ.cells) (l:=l) (d:=p.2) (v:=v) (f:=false) (id:=ids key) (j:=idxK key p.1) (fz:=fzLen ρ τ.n fz)
              hT (Ty.cells_len τ) hv ho hkd hsz hz hzl hby hb1 (by rw [ev_put_ne (hne ky hyo),opd_ok hx]; simp only [evSV,hd,dlen]) (by rw [hyo,ev_put_same]) h1
            refine newO_ok h (AOp.views (s':=stoE p.1 ρ ids) (t':=(tauE st ρ ids).put (some ky) (.slc (p.2.flatMap τ.cells) p.2.length false)) (fun w m i a hr hop'=>?_) hop) ?_
            · obtain ⟨m',i',g1,g2,g3⟩:=hshift (fun _=>.any) w m i a hr (fun _=>trivial)
              refine ⟨m',i',g1,fun k hkm=>?_,g3⟩
              simp only [Tau.put]
              by_cases ek:k=ky
              · subst ek
                rw [nbeq_self,if_pos rfl]
                refine hview w m' i' _ g1 (VR.mono g3.mu g3.io _ _ ?_)
                have:=hop' k hkm
                rw [show tauE st ρ ids k=evSV ρ ids y from by rw [← opd_ok (ids:=ids) hy,hyo]; rfl] at this
                exact this
              · rw [nbeq_ne ek]
                exact VR.mono g3.mu g3.io _ _ (hop' k hkm)
            · rintro av s' ⟨id',rfl,rfl⟩
              obtain ⟨_,hobok⟩:=stoOk_lk hpok hk
              have ef:=fzLen_agree (n:=τ.n) (updL_agree ρ st.nv [⟨.list false τ,v⟩]) hobok
              refine ⟨id',by simp only [evSV,updI_self,updL_one,dlen],?_⟩
              rw [h3]
              simp only [evOB,updL_one]
              rw [ef]
          · cases h
        · cases h
      · cases h
    · cases h

def appnx (T:TT) (tys:List (Nat×Ty)) (ty:Nat) (xo yo:Operand) (y:SV) (st:St) (ρ:Rho) (kk:SV→St→Rho→Option R):Option R :=
  match lk T.kd ty with
  | some (.slice e0)=>match lk tys e0 with
    | none=>none
    | some τ=>match elemx T ty τ.n,isTmp xo,isTmp yo with
      | some (e,by'),some _,some _=>(appArg st ρ τ y).bind fun p=>(appL by' ([]:List τ.D) p.2).bind fun v=>newO st ρ p.1 1 [⟨.list false τ,v⟩] (.list e st.nv none) (.row st.nk st.nv) kk
      | _,_,_=>none
  | _=>none

theorem appnx_ok (hT:TTok P T) {tys:List (Nat×Ty)} {o:Oper} {ty:Nat} {xo yo:Operand} {y:SV} {st:St} {ρ:Rho} {ids:Ids} {kk:SV→St→Rho→Option R} {r:R} (ho:o.op=.call ⟨.builtin .append,#[xo,yo],#[ty,ty]⟩)
    (hne:∀ k,yo=.tmp k→xo≠.tmp k) (hx:opd' st.live xo=some .nils) (hy:opd' st.live yo=some y) (h:appnx T tys ty xo yo y st ρ kk=some r):HOk P o st ρ ids kk r:=by
  unfold appnx at h
  split at h
  · rename_i e0 hk0
    split at h
    · cases h
    · rename_i τ hτ
      split at h
      · rename_i e by' kx ky he hkx hky
        obtain ⟨hkd,hsz,⟨zs,hz,hzl,hz1⟩,hby,hb1⟩:=elemx_ok he
        obtain ⟨p,hp,h⟩:=bind_some' h
        obtain ⟨hshift,hview⟩:=appArg_ok (ids:=ids) hp
        obtain ⟨v,hv,h⟩:=bind_some' h
        have hyo:yo=.tmp ky:=by
          cases yo <;> simp [isTmp] at hky
          rw [hky]
        have hxo:xo=.tmp kx:=by
          cases xo <;> simp [isTmp] at hkx
          rw [hkx]
        have hkk:kx≠ky:=fun e=>hne ky hyo (by rw [hxo,e])
        refine newO_ok (ids:=ids) (Rr:=fun av s'=>∃ id',av=.row id' v.length∧s'=(id',.row e τ.n (v.flatMap τ.cells) 0) :: stoE p.1 ρ ids) h ?_ ?_
        · intro a w m i hr hop' K Q hK
          obtain ⟨m',i',g1,_,g3⟩:=hshift (fun _=>.any) w m i a hr (fun _=>trivial)
          obtain ⟨id,i2,q1,q2,q3,q4⟩:=g1.adopt e τ.n
          have hop:=aop_appN (P:=P) (t:=((tauE st ρ ids).put (some kx) (.row id 0)).put (some ky) (.slc (p.2.flatMap τ.cells) p.2.length false)) (s:=(id,.row e τ.n [] 0) :: stoE p.1 ρ ids) (g:=τ.cells) (l:=([]:List τ.D)) (d:=p.2) (v:=v) (f:=false) (id:=id) (j:=0) (fz:=0)
            hT (Ty.cells_len τ) hv ho hkd hsz hz hzl hby hb1 (by rw [ev_put_ne (hne ky hyo),hxo,ev_put_same]; rfl) (by rw [hyo,ev_put_same]) rfl
          refine hop a w m' i2 q3 (fun k hkm=>?_) K Q ?_
          · simp only [Tau.put]
            by_cases ek:k=ky
            · subst ek
              rw [nbeq_self,if_pos rfl]
              refine VR.mono (Mu.le_refl _) q4.io _ _ (hview w m' i' _ g1 (VR.mono g3.mu g3.io _ _ ?_))
              have:=hop' k hkm
              rw [show tauE st ρ ids k=evSV ρ ids y from by rw [← opd_ok (ids:=ids) hy,hyo]; rfl] at this
              exact this
            · rw [nbeq_ne ek]
              by_cases ek2:k=kx
              · subst ek2
                rw [nbeq_self,if_pos rfl]
                simp only [Bool.false_eq_true,if_false]
                have:=hop' k hkm
                rw [show tauE st ρ ids k=evSV ρ ids .nils from by rw [← opd_ok (ids:=ids) hx,hxo]; rfl] at this
                exact .inl ⟨q2,rfl,this⟩
              · rw [nbeq_ne ek2]
                simp only [Bool.false_eq_true,if_false]
                exact VR.mono (Mu.le_trans g3.mu q4.mu) (Io.le_trans g3.io q4.io) _ _ (hop' k hkm)
          · rintro u w' av s' m'' i'' ⟨id',rfl,rfl⟩ k1 k2 k3
            exact hK u w' _ _ m'' i'' ⟨id',rfl,rfl⟩ k1 k2 ((g3.trans q4).trans k3)
        · rintro av s' ⟨id',rfl,rfl⟩
          refine ⟨id',by simp only [evSV,updI_self,updL_one,dlen],?_⟩
          simp only [evOB,updL_one,fzLen]
      · cases h
  · cases h

def emptyx (T:TT) (tys:List (Nat×Ty)) (ty:Nat) (st:St) (ρ:Rho) (kk:SV→St→Rho→Option R):Option R :=
  match lk T.kd ty with
  | some (.slice e0)=>match lk tys e0 with
    | none=>none
    | some τ=>match elemx T ty τ.n with
      | some (e,_)=>newO st ρ st.sto 1 [⟨.list false τ,([]:List τ.D)⟩] (.list e st.nv none) (.row st.nk st.nv) kk
      | none=>none
  | _=>none
theorem emptyx_ok (hT:TTok P T) {tys:List (Nat×Ty)} {o:Oper} {ty:Nat} {ps:Array (Nat×Operand)} {st:St} {ρ:Rho} {ids:Ids} {kk:SV→St→Rho→Option R} {r:R} (ho:o.op=.buildSlice ty 0 ps) (hps:ps.toList=[])
    (h:emptyx T tys ty st ρ kk=some r):HOk P o st ρ ids kk r:=by
  unfold emptyx at h
  split at h
  · rename_i e0 hk0
    split at h
    · cases h
    · rename_i τ hτ
      split at h
      · rename_i e by' he
        obtain ⟨hkd,hsz,⟨zs,hz,hzl,hz1⟩,hby,hb1⟩:=elemx_ok he
        refine newO_ok (ids:=ids) (Rr:=fun av s'=>∃ id',av=.row id' 0∧s'=(id',.row e τ.n [] 0) :: stoE st.sto ρ ids) h ?_ ?_
        · refine aop_buildRow (cs:=[]) hT ho hkd hz hsz ?_ ?_ ?_ WL.nil
          · rw [Nat.zero_mul,hzl,hz1]; rfl
          · unfold pparts; rw [hps,Nat.zero_mul]; rfl
          · rw [Nat.zero_mul]; rfl
        · rintro av s' ⟨id',rfl,rfl⟩
          refine ⟨id',by simp only [evSV,updI_self,updL_one,dlen]; rfl,?_⟩
          simp only [evOB,updL_one,fzLen]
          rfl
      · cases h
  · cases h

def build1x (T:TT) (tys:List (Nat×Ty)) (ty:Nat) (x:SV) (st:St) (ρ:Rho) (kk:SV→St→Rho→Option R):Option R :=
  match lk T.kd ty with
  | some (.slice e0)=>match lk tys e0,x with
    | some .tree,.var j=>match ρ j with
      | ⟨.tree,t⟩=>match elemx T ty 1 with
        | some (e,_)=>newO st ρ st.sto 1 [⟨.list false .tree,([t]:List Tr)⟩] (.list e st.nv none) (.row st.nk st.nv) kk
        | none=>none
      | _=>none
    | _,_=>none
  | _=>none
theorem build1x_ok (hT:TTok P T) {tys:List (Nat×Ty)} {o:Oper} {ty:Nat} {ps:Array (Nat×Operand)} {y:Operand} {x:SV} {st:St} {ρ:Rho} {ids:Ids} {kk:SV→St→Rho→Option R} {r:R} (ho:o.op=.buildSlice ty 1 ps) (hps:ps.toList=[(0,y)])
    (hx:opd' st.live y=some x) (h:build1x T tys ty x st ρ kk=some r):HOk P o st ρ ids kk r:=by
  unfold build1x at h
  split at h
  · rename_i e0 hk0
    split at h
    · rename_i j hτ
      split at h
      · rename_i t hj
        split at h
        · rename_i e by' he
          obtain ⟨hkd,hsz,⟨zs,hz,hzl,hz1⟩,hby,hb1⟩:=elemx_ok he
          have hv:ev (tauE st ρ ids) y=.tree t:=by
            rw [opd_ok hx]
            simp only [evSV,hj]
            rfl
          refine newO_ok (ids:=ids) (Rr:=fun av s'=>∃ id',av=.row id' 1∧s'=(id',.row e 1 [.tree t] 0) :: stoE st.sto ρ ids) h ?_ ?_
          · refine aop_buildRow (cs:=[.tree t]) hT ho hkd hz hsz ?_ ?_ rfl (WL.refl _)
            · rw [Nat.one_mul,hzl,hz1]; rfl
            · unfold pparts
              rw [hps,List.map_cons,List.map_nil,hv]
              rfl
          · rintro av s' ⟨id',rfl,rfl⟩
            refine ⟨id',by simp only [evSV,updI_self,updL_one,dlen]; rfl,?_⟩
            simp only [evOB,updL_one,fzLen]
            rfl
        · cases h
      · cases h
    · cases h
  · cases h

def appcx (T:TT) (tys:List (Nat×Ty)) (ty:Nat) (xo yo:Operand) (x y:SV) (st:St) (ρ:Rho) (kk:SV→St→Rho→Option R):Option R :=
  match lk T.kd ty with
  | some (.slice e0)=>match lk tys e0 with
    | none=>none
    | some τ=>match elemx T ty τ.n,isTmp xo,isTmp yo with
      | some (_e,by'),some _,some _=>(appArg st ρ τ y).bind fun p=>(asTy 40 p.1 ρ (.list true τ) x).bind fun l=>(appL by' l p.2).bind fun v =>
        (match (st.ok && stoOk st.nv st.nk p.1:Bool) with | true=>kk (.var st.nv) { live:=st.live,sto:=p.1,nv:=st.nv+1,nk:=st.nk } (updL ρ st.nv [⟨.list false τ,v⟩]) | false=>none)
      | _,_,_=>none
  | _=>none

theorem aop_appCN {t:Tau} {s:Store} {α:Type} (h:TTok P T) {o:Oper} {x y:Operand} {ty e by' sz:Nat} {g:α→List AV} (hg:∀ x,(g x).length=sz) {l d v:List α} {f:Bool} {zs:List Value} (hv:appL by' l d=some v)
    (ho:o.op=.call ⟨.builtin .append,#[x,y],#[ty,ty]⟩) (hk:lk T.kd ty=some (.slice e)) (hs:lk T.sz e=some sz) (hz:lk T.zero e=some zs) (hzl:(Nat.beq zs.length sz && zs.all Value.oneCell')=true) (hby:lk T.by' e=some by') (hb1:Nat.blt 0 by'=true)
    (hx:ev t x=.slc (l.flatMap g) l.length true) (hy:ev t y=.slc (d.flatMap g) d.length f) :
    AOp P o t s (fun z s'=>z=.slc (v.flatMap g) v.length false∧s'=s):=by
  obtain ⟨hb,rfl⟩:=appL_some hv
  rw [List.flatMap_append,List.length_append]
  exact aop_appendCopy h ho hk hs hz hzl hby hx hy (flat_len hg l) (flat_len hg d) hb hb1

theorem appcx_ok (hT:TTok P T) {tys:List (Nat×Ty)} {o:Oper} {ty:Nat} {xo yo:Operand} {x y:SV} {st:St} {ρ:Rho} {ids:Ids} {kk:SV→St→Rho→Option R} {r:R} (ho:o.op=.call ⟨.builtin .append,#[xo,yo],#[ty,ty]⟩)
    (hne:∀ k,yo=.tmp k→xo≠.tmp k) (hx:opd' st.live xo=some x) (hy:opd' st.live yo=some y) (h:appcx T tys ty xo yo x y st ρ kk=some r):HOk P o st ρ ids kk r:=by
  unfold appcx at h
  split at h
  · rename_i e0 hk0
    split at h
    · cases h
    · rename_i τ hτ
      split at h
      · rename_i e by' kx ky he hkx hky
        obtain ⟨hkd,hsz,⟨zs,hz,hzl,hz1⟩,hby,hb1⟩:=elemx_ok he
        obtain ⟨p,hp,h⟩:=bind_some' h
        obtain ⟨hshift,hview⟩:=appArg_ok (ids:=ids) hp
        obtain ⟨l,hlx,h⟩:=bind_some' h
        have hviewx:=asTy_view (ids:=ids) _ _ _ _ hlx
        obtain ⟨v,hv,h⟩:=bind_some' h
        split at h
        · rename_i hb
          simp only [Bool.and_eq_true,St.ok] at hb
          have hyo:yo=.tmp ky:=by
            cases yo <;> simp [isTmp] at hky
            rw [hky]
          have hxo:xo=.tmp kx:=by
            cases xo <;> simp [isTmp] at hkx
            rw [hkx]
          have hkk:kx≠ky:=fun e=>hne ky hyo (by rw [hxo,e])
          have hop:=aop_appCN (P:=P) (t:=((tauE st ρ ids).put (some kx) (.slc (l.flatMap τ.cells) l.length true)).put (some ky) (.slc (p.2.flatMap τ.cells) p.2.length false)) (s:=stoE p.1 ρ ids) (g:=τ.cells) (l:=l) (d:=p.2) (v:=v) (f:=false)
            hT (Ty.cells_len τ) hv ho hkd hsz hz (by rw [hzl,hz1]; rfl) hby hb1 (by rw [ev_put_ne (hne ky hyo),hxo,ev_put_same]) (by rw [hyo,ev_put_same])
          refine ⟨_,AOp.views (s':=stoE p.1 ρ ids) (t':=((tauE st ρ ids).put (some kx) (.slc (l.flatMap τ.cells) l.length true)).put (some ky) (.slc (p.2.flatMap τ.cells) p.2.length false)) (fun w m i a hr hop'=>?_) hop,?_⟩
          · obtain ⟨m',i',g1,g2,g3⟩:=hshift (fun _=>.any) w m i a hr (fun _=>trivial)
            refine ⟨m',i',g1,fun k hkm=>?_,g3⟩
            simp only [Tau.put]
            by_cases ek:k=ky
            · subst ek
              rw [nbeq_self,if_pos rfl]
              refine hview w m' i' _ g1 (VR.mono g3.mu g3.io _ _ ?_)
              have:=hop' k hkm
              rw [show tauE st ρ ids k=evSV ρ ids y from by rw [← opd_ok (ids:=ids) hy,hyo]; rfl] at this
              exact this
            · rw [nbeq_ne ek]
              by_cases ek2:k=kx
              · subst ek2
                rw [nbeq_self,if_pos rfl]
                simp only [Bool.false_eq_true,if_false]
                refine hviewx w m' i' _ g1 (VR.mono g3.mu g3.io _ _ ?_)
                have:=hop' k hkm
                rw [show tauE st ρ ids k=evSV ρ ids x from by rw [← opd_ok (ids:=ids) hx,hxo]; rfl] at this
                exact this
              · rw [nbeq_ne ek2]
                simp only [Bool.false_eq_true,if_false]
                exact VR.mono g3.mu g3.io _ _ (hop' k hkm)
          · rintro av s' ⟨rfl,rfl⟩
            have hagR:=updL_agree ρ st.nv [⟨.list false τ,v⟩]
            refine ⟨_,_,_,ids,h,by simp only [evSV,updL_one]; rfl,(stoE_agree hagR (fun _ _=>rfl) hb.2).symm,tauE_agree (st:=st) hagR (fun _ _=>rfl) hb.1.1,fun key ob q1 q2=>?_,fun _ _=>rfl,Nat.le_refl _⟩
            obtain ⟨g1,g2⟩:=stoOk_lk hb.1.2 q1
            rw [evOB_agree hagR (fun _ _=>rfl) g2]
        · cases h
      · cases h
  · cases h

/-! ### make -/
def makex (T:TT) (tys:List (Nat×Ty)) (ty:Nat) (x y:SV) (st:St) (ρ:Rho) (kk:SV→St→Rho→Option R):Option R :=
  match lk T.kd ty with
  | some (.slice e0)=>match lk tys e0 with
    | none=>none
    | some τ=>match elemx T ty τ.n,lk T.zero e0,intK ρ x,intK ρ y with
      | some (e,by'),some [v],some (_,n),some _=>match SV.beq x y && Nat.beq τ.n 1 && !(isP τ) && v.oneCell' with
        | true=>match zeroT τ v with
          | some z=>(mkL by' z n).bind fun l=>newO st ρ st.sto 1 [⟨.list false τ,l⟩] (.list e st.nv none) (.row st.nk st.nv) kk
          | none=>none
        | false=>none
      | _,_,_,_=>none
  | _=>none

theorem makex_ok (hT:TTok P T) {tys:List (Nat×Ty)} {o:Oper} {ty:Nat} {xo yo:Operand} {x y:SV} {st:St} {ρ:Rho} {ids:Ids} {kk:SV→St→Rho→Option R} {r:R} (ho:o.op=.makeSlice ty xo yo)
    (hx:opd' st.live xo=some x) (hy:opd' st.live yo=some y) (h:makex T tys ty x y st ρ kk=some r):HOk P o st ρ ids kk r:=by
  unfold makex at h
  split at h
  · rename_i e0 hk0
    split at h
    · cases h
    · rename_i τ hτ
      split at h
      · rename_i e by' v k n k2 he hz hix hiy
        obtain ⟨hkd,hsz,_,hby,hb1⟩:=elemx_ok he
        rw [hk0] at hkd
        cases hkd
        split at h
        · rename_i hb
          simp only [Bool.and_eq_true,Bool.not_eq_true'] at hb
          have hxy:=SV.beq_eq _ _ hb.1.1.1
          subst hxy
          have hτ1:=Nat.eq_of_beq_eq_true hb.1.1.2
          split at h
          · rename_i z hzt
            obtain ⟨l,hl,h⟩:=bind_some' h
            have hcell:∀ x:τ.D,τ.cells x=[τ.av x]:=fun x=>Ty.cells_scalar τ x (fun a b e=>by rw [e] at hb; cases hb.1.2) (fun a e=>by rw [e] at hb; cases hb.1.2)
            have hflat:∀ l:List τ.D,l.flatMap τ.cells=l.map τ.av:=fun l=>by
              rw [← flat1 τ.av l]; congr 1; funext x; exact hcell x
            rw [hτ1] at hsz
            refine newO_ok h (aop_mk1 (g:=τ.av) (z:=z) (r:=l) (l:=n) (k1:=k) (k2:=k) hT hl ho hk0 hsz hz hb.2 hby hb1 (zeroT_ok hzt) (by rw [opd_ok hx,intK_ok hix]) (by rw [opd_ok hy,intK_ok hix])) ?_
            rintro av s' ⟨id,rfl,rfl⟩
            refine ⟨id,by simp only [evSV,updI_self,updL_one,dlen],?_⟩
            simp only [evOB,updL_one,fzLen,hflat,hτ1]
          · cases h
        · cases h
      · cases h
  · cases h

/-! ### texts by runes -/
def runeAt (l:List UInt8) (p:Nat):Nat×Nat:=Utf8.decode ⟨l.toArray⟩ p

def rangex (T:TT) (ty:Nat) (x:SV) (st:St) (ρ:Rho) (kk:SV→St→Rho→Option R):Option R:=match lk T.kd ty,strOf ρ x with
  | some .string,some l=>newO st ρ st.sto 2 [⟨.str,l⟩,⟨.int .i64,0⟩] (.iter st.nv (st.nv+1)) (.it st.nk) kk
  | _,_=>none
theorem rangex_ok (hT:TTok P T) {o:Oper} {ty:Nat} {xo:Operand} {x:SV} {st:St} {ρ:Rho} {ids:Ids} {kk:SV→St→Rho→Option R} {r:R} (ho:o.op=.range ty xo) (hx:opd' st.live xo=some x) (h:rangex T ty x st ρ kk=some r):HOk P o st ρ ids kk r:=by
  unfold rangex at h
  split at h
  · rename_i l hk hl
    refine newO_ok h (aop_range hT ho hk (by rw [opd_ok hx,strOf_ok hl])) ?_
    rintro av s' ⟨k,rfl,rfl⟩
    refine ⟨k,by simp only [evSV,updI_self],?_⟩
    have e1:=updL_new ρ st.nv [⟨.str,l⟩,⟨.int .i64,0⟩] 0 _ rfl
    have e2:=updL_new ρ st.nv [⟨.str,l⟩,⟨.int .i64,0⟩] 1 _ rfl
    rw [Nat.add_zero] at e1
    simp only [evOB,e1,e2]
    rfl
  · cases h

def nextx (x:SV) (st:St) (ρ:Rho) (kk:SV→St→Rho→Option R):Option R:=match x with
  | .it key=>match lk st.sto key with
    | some (.iter j p)=>match strOf ρ (.var j),intOf ρ (.var p) with
      | some l,some n=>iteS (decide (n.toNat<l.length))
          (match (st.ok:Bool) with
          | true=>kk (.tup [.bool true,.var st.nv,.var (st.nv+1)]) { live:=st.live,sto:=setK key (.iter j (st.nv+2)) st.sto,nv:=st.nv+3,nk:=st.nk }
            (updL ρ st.nv [⟨.int .i64,((n.toNat:Nat):Int)⟩,⟨.int .i32,(((runeAt l n.toNat).1:Nat):Int)⟩,⟨.int .i64,((n.toNat+(runeAt l n.toNat).2:Nat):Int)⟩])
          | false=>none)
          (kk (.tup [.bool false]) st ρ)
      | _,_=>none
    | _=>none
  | _=>none
theorem nextx_ok {o:Oper} {xo:Operand} {x:SV} {st:St} {ρ:Rho} {ids:Ids} {kk:SV→St→Rho→Option R} {r:R} (ho:o.op=.next xo true) (hx:opd' st.live xo=some x) (h:nextx x st ρ kk=some r):HOk P o st ρ ids kk r:=by
  unfold nextx at h
  split at h
  · rename_i key
    split at h
    · rename_i j p hk
      split at h
      · rename_i l n hl hn
        have hdl:ρ j=⟨.str,l⟩:=by
          simp only [strOf] at hl
          split at hl
          · rename_i l' hd; cases hl; exact hd
          · cases hl
        have hdn:∃ k,ρ p=⟨.int k,n⟩:=by
          simp only [intOf] at hn
          split at hn
          · rename_i k n' hd; cases hn; exact ⟨k,hd⟩
          · cases hn
        obtain ⟨kp,hdn⟩:=hdn
        have hsz:(⟨l.toArray⟩:ByteArray).size=l.length:=by simp [ByteArray.size]
        obtain ⟨h1,h2,_⟩:=setK_idx (ρ:=ρ) (ids:=ids) (o':=.iter j p) hk
        simp only [evOB,hdl,hdn] at h1
        refine ⟨_,aop_next ho (by rw [opd_ok hx]; simp only [evSV]) h1,?_⟩
        rintro av s' (⟨hp,rfl,rfl⟩ | ⟨hp,rfl,rfl⟩)
        · rw [hsz] at hp
          rw [iteS_eq,if_pos (by simpa using hp)] at h
          split at h
          · rename_i hok
            simp only [St.ok,Bool.and_eq_true] at hok
            have hR:=updL_agree ρ st.nv [⟨.int .i64,((n.toNat:Nat):Int)⟩,⟨.int .i32,(((runeAt l n.toNat).1:Nat):Int)⟩,⟨.int .i64,((n.toNat+(runeAt l n.toNat).2:Nat):Int)⟩]
            have e0:=updL_new ρ st.nv [⟨.int .i64,((n.toNat:Nat):Int)⟩,⟨.int .i32,(((runeAt l n.toNat).1:Nat):Int)⟩,⟨.int .i64,((n.toNat+(runeAt l n.toNat).2:Nat):Int)⟩] 0 _ rfl
            have e1:=updL_new ρ st.nv [⟨.int .i64,((n.toNat:Nat):Int)⟩,⟨.int .i32,(((runeAt l n.toNat).1:Nat):Int)⟩,⟨.int .i64,((n.toNat+(runeAt l n.toNat).2:Nat):Int)⟩] 1 _ rfl
            have e2:=updL_new ρ st.nv [⟨.int .i64,((n.toNat:Nat):Int)⟩,⟨.int .i32,(((runeAt l n.toNat).1:Nat):Int)⟩,⟨.int .i64,((n.toNat+(runeAt l n.toNat).2:Nat):Int)⟩] 2 _ rfl
            rw [Nat.add_zero] at e0
            have hj:=(stoOk_lk hok.2 hk).2
            simp only [OB.ok,Bool.and_eq_true] at hj
            refine ⟨_,_,_,ids,h,?_,?_,tauE_agree (st:=st) hR (fun _ _=>rfl) hok.1,fun key' ob q1 q2=>?_,fun _ _=>rfl,Nat.le_refl _⟩
            · simp only [evSV,evSVs,e0,e1]
              rfl
            · have hall:=stoE_agree (i:=ids) (i':=ids) hR (fun _ _=>rfl) hok.2
              obtain ⟨g1,g2,g3⟩:=setK_idx (ρ:=updL ρ st.nv [⟨.int .i64,((n.toNat:Nat):Int)⟩,⟨.int .i32,(((runeAt l n.toNat).1:Nat):Int)⟩,⟨.int .i64,((n.toNat+(runeAt l n.toNat).2:Nat):Int)⟩]) (ids:=ids) (o':=.iter j (st.nv+2)) hk
              simp only
              rw [← g2,hall]
              simp only [evOB,e2,hR j (blt_lt hj.1),hdl]
              rfl
            · obtain ⟨g1,g2⟩:=stoOk_lk hok.2 q1
              rw [evOB_agree hR (fun _ _=>rfl) g2]
          · cases h
        · rw [hsz] at hp
          rw [iteS_eq,if_neg (by simpa using hp)] at h
          exact ⟨_,_,_,ids,h,by simp only [evSV,evSVs],rfl,rfl,fun key' ob q1 q2=>rfl,fun _ _=>rfl,Nat.le_refl _⟩
      · cases h
    · cases h
  · cases h

/-! ### maps -/
def makeMapx (T:TT) (tys:List (Nat×Ty)) (ty:Nat) (st:St) (ρ:Rho) (kk:SV→St→Rho→Option R):Option R:=match lk T.mp ty with
  | none=>none
  | some (_,et)=>match lk tys et with
    | none=>none
    | some τ=>newO st ρ st.sto 1 [⟨.list false (.pair .str τ),[]⟩] (.map st.nv) (.mp st.nk) kk
theorem makeMapx_ok {tys:List (Nat×Ty)} {o:Oper} {ty:Nat} {st:St} {ρ:Rho} {ids:Ids} {kk:SV→St→Rho→Option R} {r:R} (ho:o.op=.makeMap ty none) (h:makeMapx T tys ty st ρ kk=some r):HOk P o st ρ ids kk r:=by
  unfold makeMapx at h
  split at h
  · cases h
  · split at h
    · cases h
    · rename_i τ _
      refine newO_ok h (aop_makeMap ho) ?_
      rintro av s' ⟨k,rfl,rfl⟩
      exact ⟨k,by simp only [evSV,updI_self],by simp only [evOB,updL_one]; rfl⟩

def exactT (ρ:Rho):(τ:Ty)→SV→Option τ.D
  | .bool,x=>boolOf ρ x
  | .str,x=>strOf ρ x
  | .int k,x=>match intK ρ x with
    | some (k',n)=>if keq k' k then some n else none
    | none=>none
  | _,_=>none
theorem exactT_ok {ρ:Rho} {ids:Ids} {τ:Ty} {x:SV} {v:τ.D} (h:exactT ρ τ x=some v):evSV ρ ids x=τ.av v:=by
  cases τ <;> simp only [exactT] at h <;> first | (cases h; done) | skip
  · split at h
    · rename_i k' n hk
      split at h
      · rename_i he
        cases h
        rw [intK_ok hk,keq_eq he]; rfl
      · cases h
    · cases h
  · rw [boolOf_ok h]; rfl
  · rw [strOf_ok h]; rfl

def mapUpx (T:TT) (ty:Nat) (x y z:SV) (st:St) (ρ:Rho) (kk:SV→St→Rho→Option R):Option R:=match x,strOf ρ y,lk T.mp ty with
  | .mp key,some k,some (kt,_)=>match lk st.sto key,lk T.kd kt with
    | some (.map j),some .string=>match mapV ρ j with
      | some ⟨τ,l⟩=>match exactT ρ τ z with
        | some v=>(match (st.ok:Bool) with | true=>kk .any { live:=st.live,sto:=setK key (.map st.nv) st.sto,nv:=st.nv+1,nk:=st.nk } (updL ρ st.nv [⟨.list false (.pair .str τ),updM l k v⟩]) | false=>none)
        | none=>none
      | none=>none
    | _,_=>none
  | _,_,_=>none
theorem mapUpx_ok (hT:TTok P T) {o:Oper} {ty:Nat} {xo yo zo:Operand} {x y z:SV} {st:St} {ρ:Rho} {ids:Ids} {kk:SV→St→Rho→Option R} {r:R} (ho:o.op=.mapUpdate ty xo yo zo)
    (hx:opd' st.live xo=some x) (hy:opd' st.live yo=some y) (hz:opd' st.live zo=some z) (h:mapUpx T ty x y z st ρ kk=some r):HOk P o st ρ ids kk r:=by
  unfold mapUpx at h
  split at h
  · rename_i key k kt et hk hmp
    split at h
    · rename_i j hks hkt
      split at h
      · rename_i τ l hm
        split at h
        · rename_i v hv
          split at h
          · rename_i hok
            simp only [St.ok,Bool.and_eq_true] at hok
            obtain ⟨f,hd⟩:=mapV_ok hm
            obtain ⟨h1,h2,_⟩:=setK_idx (ρ:=ρ) (ids:=ids) (o':=.map j) hks
            simp only [evOB,hd,Go.Sx.mapOf] at h1
            refine ⟨_,aop_mapUpdate1 (g:=τ.av) (l:=l) (v:=v) hT ho hmp hkt (by rw [opd_ok hx]; simp only [evSV]) (by rw [opd_ok hy,strOf_ok hk]) (by rw [opd_ok hz,exactT_ok hv]) h1,?_⟩
            rintro av s' ⟨rfl,rfl⟩
            have hR:=updL_agree ρ st.nv [⟨.list false (.pair .str τ),updM l k v⟩]
            refine ⟨_,_,_,ids,h,by simp only [evSV],?_,tauE_agree (st:=st) hR (fun _ _=>rfl) hok.1,fun key' ob q1 q2=>?_,fun _ _=>rfl,Nat.le_refl _⟩
            · have hall:=stoE_agree (i:=ids) (i':=ids) hR (fun _ _=>rfl) hok.2
              obtain ⟨g1,g2,g3⟩:=setK_idx (ρ:=updL ρ st.nv [⟨.list false (.pair .str τ),updM l k v⟩]) (ids:=ids) (o':=.map st.nv) hks
              simp only
              rw [← g2,hall]
              simp only [evOB,updL_one]
              rfl
            · obtain ⟨g1,g2⟩:=stoOk_lk hok.2 q1
              rw [evOB_agree hR (fun _ _=>rfl) g2]
          · cases h
        · cases h
      · cases h
    · cases h
  · cases h
end
end Go.Sx

/- The executor, part 9: regions. -/
namespace Go.Sx
open Go Go.Am

section
variable {P:Program} {R:Type}

def isHeavy (X:XT):Op→Bool
  | .alloc _ | .store _ _ _ | .makeSlice _ _ _ | .range _ _ | .next _ _ | .makeMap _ _ | .mapUpdate _ _ _ _=>true
  | .box e _=>memb e X.objs
  | .buildSlice ty 0 _=>memb ty X.objs
  | .buildSlice ty 1 _=>memb ty X.objs
  | .call ⟨.value _,_,_⟩ | .call ⟨.builtin .append,_,_⟩=>true
  | _=>false

def neOp (x y:Operand):Bool:=match x,y with
  | .tmp a,.tmp b=>!(Nat.beq a b)
  | _,_=>true
theorem neOp_ok {x y:Operand} (h:neOp x y=true):∀ k,y=.tmp k→x≠.tmp k:=by
  rintro k rfl rfl
  simp [neOp] at h

def heavy (X:XT) (env:List Sig) (fuel:Nat) (o:Op) (st:St) (ρ:Rho) (kk:SV→St→Rho→Option R):Option R:=match o with
  | .alloc e=>allocx X.T e st ρ kk
  | .box e x=>match opd' st.live x with
    | some sv=>boxx e sv st ρ kk
    | none=>none
  | .store ty a y=>match opd' st.live a,opd' st.live y with
    | some sa,some sy=>(match (neOp a y:Bool) with | true=>storex X.T ty sa sy st ρ kk | false=>none)
    | _,_=>none
  | .makeSlice ty x y=>match opd' st.live x,opd' st.live y with
    | some sx,some sy=>makex X.T X.ty ty sx sy st ρ kk
    | _,_=>none
  | .range ty x=>match opd' st.live x with
    | some sv=>rangex X.T ty sv st ρ kk
    | none=>none
  | .next x true=>match opd' st.live x with
    | some sv=>nextx sv st ρ kk
    | none=>none
  | .makeMap ty none=>makeMapx X.T X.ty ty st ρ kk
  | .buildSlice ty n ps=>match n,ps.toList with
    | 0,[]=>emptyx X.T X.ty ty st ρ kk
    | 1,[(0,y)]=>match opd' st.live y with
      | some x=>build1x X.T X.ty ty x st ρ kk
      | none=>none
    | _,_=>none
  | .mapUpdate ty x y z=>match opd' st.live x,opd' st.live y,opd' st.live z with
    | some sx,some sy,some sz=>mapUpx X.T ty sx sy sz st ρ kk
    | _,_,_=>none
  | .call ⟨.value f,args,_⟩=>match opd' st.live f,opds st.live args.toList with
    | some (.fn fid first caps),some as=>callx env fuel st ρ fid (first++as++caps) kk
    | _,_=>none
  | .call ⟨.builtin .append,args,tys⟩=>match args.toList,tys.toList with
    | [x,y],[t1,t2]=>(match (Nat.beq t1 t2 && neOp x y:Bool) with
      | true=>(match opd' st.live x,opd' st.live y with
        | some (.row key j),some sy=>apprx X.T t1 key j y sy st ρ kk
        | some .nils,some sy=>appnx X.T X.ty t1 x y sy st ρ kk
        | some sx,some sy=>appcx X.T X.ty t1 x y sx sy st ρ kk
        | _,_=>none)
      | false=>none)
    | _,_=>none
  | _=>none

theorem heavy_ok {X:XT} (hX:XOk P X) {env:List Sig} {fuel:Nat} (henv:∀ g∈env,SigOk P g fuel) {o:Oper} {st:St} {ρ:Rho} {ids:Ids} {kk:SV→St→Rho→Option R} {r:R}
    (h:heavy X env fuel o.op st ρ kk=some r):HOk P o st ρ ids kk r:=by
  have hT:=hX.tt
  obtain ⟨dst,op,type,pos,after,guard⟩:=o
  simp only at h
  cases op <;> simp only [heavy] at h <;> first | (cases h; done) | skip
  case alloc e=>exact allocx_ok hT rfl h
  case box e x =>
    split at h
    · rename_i sv hx; exact boxx_ok rfl hx h
    · cases h
  case store ty a y =>
    split at h
    · rename_i sa sy ha hy
      split at h
      · rename_i hne; exact storex_ok hT rfl (neOp_ok hne) ha hy h
      · cases h
    · cases h
  case makeSlice ty x y =>
    split at h
    · rename_i sx sy hx hy; exact makex_ok hT rfl hx hy h
    · cases h
  case range ty x =>
    split at h
    · rename_i sv hx; exact rangex_ok hT rfl hx h
    · cases h
  case next x b =>
    cases b <;> (try simp only at h) <;> first | (cases h; done) | skip
    split at h
    · rename_i sv hx; exact nextx_ok rfl hx h
    · cases h
  case makeMap ty rv =>
    cases rv <;> (try simp only at h) <;> first | (cases h; done) | skip
    exact makeMapx_ok rfl h
  case buildSlice ty n ps =>
    split at h
    · rename_i hps; exact emptyx_ok hT rfl hps h
    · rename_i y hps
      split at h
      · rename_i x hx; exact build1x_ok hT rfl hps hx h
      · cases h
    · cases h
  case mapUpdate ty x y z =>
    split at h
    · rename_i sx sy sz hx hy hz; exact mapUpx_ok hT rfl hx hy hz h
    · cases h
  case call c =>
    obtain ⟨callee,args,tys⟩:=c
    cases callee <;> (try simp only at h) <;> first | (cases h; done) | skip
    · split at h
      · rename_i fid first caps as hf ha
        exact callx_ok henv rfl hf ha h
      · cases h
    · rename_i b
      cases b <;> (try simp only at h) <;> first | (cases h; done) | skip
      split at h
      · rename_i x y t1 t2 hargs htys
        have ea:args=#[x,y]:=by rw [← Array.toArray_toList (xs:=args),hargs]
        have et:tys=#[t1,t2]:=by rw [← Array.toArray_toList (xs:=tys),htys]
        split at h
        · rename_i hb
          simp only [Bool.and_eq_true] at hb
          have e12:=Nat.eq_of_beq_eq_true hb.1
          subst e12
          subst ea; subst et
          split at h
          · rename_i key j sy hx hy; exact apprx_ok hT rfl (neOp_ok hb.2) hx hy h
          · rename_i sy hx hy; exact appnx_ok hT rfl (neOp_ok hb.2) hx hy h
          · rename_i sx sy hx hy; exact appcx_ok hT rfl (neOp_ok hb.2) hx hy h
          · cases h
        · cases h
      · cases h

def St.put (st:St) (d:Option Nat) (x:SV):St:=match d with
  | some d=>{ live:=(d,x) :: st.live,sto:=st.sto,nv:=st.nv,nk:=st.nk }
  | none=>st
theorem tauE_put {st:St} {d:Option Nat} {x:SV} {ρ:Rho} {ids:Ids}:tauE (st.put d x) ρ ids=(tauE st ρ ids).put d (evSV ρ ids x):=by
  cases d with
  | none=>rfl
  | some d =>
    funext k
    simp only [tauE,St.put,Tau.put,lk]
    cases Nat.beq k d <;> rfl
theorem put_nk {st:St} {d:Option Nat} {x:SV}:(st.put d x).nk=st.nk:=by cases d <;> rfl
theorem Ids.agree.le {a b:Nat} {i j k:Ids} (h:Ids.agree a i j) (h2:Ids.agree b j k) (hab:a≤b):Ids.agree a i k:=fun x hx=>(h2 x (Nat.lt_of_lt_of_le hx hab)).trans (h x hx)
theorem put_sto {st:St} {d:Option Nat} {x:SV}:(st.put d x).sto=st.sto:=by cases d <;> rfl

def guardx (ops:Array Oper) (o:Oper) (st:St) (ρ:Rho) (yes no:Rho→Option R):Option R:=match o.guard with
  | none=>yes ρ
  | some (j,want)=>match dstOf ops j with
    | none=>none
    | some d=>match lk st.live d with
      | none=>none
      | some .und=>no ρ
      | some sv=>match want with
        | true=>ifB ρ sv yes no
        | false=>ifB ρ sv no yes
theorem guardx_ok {ops:Array Oper} {o:Oper} {st:St} {ρ:Rho} {ids:Ids} {yes no:Rho→Option R} {r:R} (h:guardx ops o st ρ yes no=some r) :
    (gd ops (tauE st ρ ids) o=some true∧yes ρ=some r)∨(gd ops (tauE st ρ ids) o=some false∧no ρ=some r):=by
  unfold guardx at h
  unfold gd
  split at h
  · rename_i hg; rw [hg]; exact .inl ⟨rfl,h⟩
  · rename_i j want hg
    rw [hg]
    simp only
    unfold dstOf at h
    split at h
    · cases h
    · rename_i d hd
      rw [hd]
      simp only
      split at h
      · cases h
      · rename_i hl
        have:tauE st ρ ids d=.lit undef:=by simp [tauE,hl,evSV]
        rw [this]
        exact .inr ⟨rfl,h⟩
      · rename_i sv hne hl
        have e:tauE st ρ ids d=evSV ρ ids sv:=by simp [tauE,hl]
        rw [e]
        cases want with
        | true =>
          rcases ifB_ok h with ⟨hb,h⟩ | ⟨hb,h⟩
          · rw [boolOf_ok hb]; exact .inl ⟨rfl,h⟩
          · rw [boolOf_ok hb]; exact .inr ⟨rfl,h⟩
        | false =>
          rcases ifB_ok h with ⟨hb,h⟩ | ⟨hb,h⟩
          · rw [boolOf_ok hb]; exact .inr ⟨rfl,h⟩
          · rw [boolOf_ok hb]; exact .inl ⟨rfl,h⟩

def opx (X:XT) (env:List Sig) (fuel:Nat) (o:Oper) (st:St) (ρ:Rho) (k:St→Rho→Option R):Option R :=
  match isHeavy X o.op with
  | true=>heavy X env fuel o.op st ρ fun sv st' ρ'=>k (st'.put o.dst sv) ρ'
  | false=>lite X o.op st ρ fun sv st' ρ'=>k (st'.put o.dst sv) ρ'

def runOps (X:XT) (env:List Sig) (n fuel:Nat) (ops:Array Oper):List Oper→(St→Rho→Option R)→St→Rho→Option R
  | [],k,st,ρ=>k st ρ
  | o :: l,k,st,ρ=>match inB o.dst n with
    | true=>guardx ops o st ρ (fun ρ=>opx X env fuel o st ρ fun st ρ=>runOps X env n fuel ops l k st ρ) (fun ρ=>runOps X env n fuel ops l k (st.put o.dst .und) ρ)
    | false=>none

def GOk (nk0:Nat) (ids0:Ids) (G:R→Tau→Store→Prop) (k:St→Rho→Option R):Prop:=∀ st ρ ids r,nk0≤st.nk→Ids.agree nk0 ids0 ids→k st ρ=some r→G r (tauE st ρ ids) (stoE st.sto ρ ids)

theorem aops_yes {n:Nat} {t:Tau} {s:Store} {ops:Array Oper} {o:Oper} {rest:List Oper} {Q:Tau→Store→Prop} {Rr:AV→Store→Prop} (hg:gd ops t o=some true) (hd:inB o.dst n=true) (h:AOp P o t s Rr)
    (k:∀ av s',Rr av s'→AOps P n ops rest Q (t.put o.dst av) s'):AOps P n ops (o :: rest) Q t s:=by
  intro a w m i h1 h2 h3 h4 w0 m0 i0 s0 Q' hq hs
  unfold wpList
  rw [if_pos (gd_wanted hg h2)]
  refine .inl (h a w m i h1 (fun k _=>h2 k) _ _ ?_)
  intro v w' av s' m' i' hR hv hr hst
  exact k av s' hR _ w' m' i' hr ((h2.mono hst.mu hst.io).put (h3 ▸ inB_lt hd) hv) (size_put.trans h3) (defers_put.trans h4) w0 m0 i0 s0 Q' hq (hs.trans hst)
theorem aops_no {n:Nat} {t:Tau} {s:Store} {ops:Array Oper} {o:Oper} {rest:List Oper} {Q:Tau→Store→Prop} (hg:gd ops t o=some false) (hd:inB o.dst n=true)
    (k:AOps P n ops rest Q (t.put o.dst (.lit undef)) s):AOps P n ops (o :: rest) Q t s:=by
  intro a w m i h1 h2 h3 h4 w0 m0 i0 s0 Q' hq hs
  unfold wpList
  rw [if_neg (by rw [gd_wanted hg h2]; simp)]
  exact k _ w m i h1 (h2.put (h3 ▸ inB_lt hd) rfl) (size_put.trans h3) (defers_put.trans h4) w0 m0 i0 s0 Q' hq hs

theorem Ext.tau {st st':St} {ρ ρ':Rho} (h:Ext st ρ st' ρ') (ids:Ids):tauE st' ρ' ids=tauE st ρ ids:=by
  have h1:=h.1
  have h2:=(h.2.2.2 ids).1
  rw [← h2]
  unfold tauE
  rw [h1]
theorem Ext.store {st st':St} {ρ ρ':Rho} (h:Ext st ρ st' ρ') (ids:Ids):stoE st'.sto ρ' ids=stoE st.sto ρ ids:=by
  rw [h.2.1]; exact (h.2.2.2 ids).2

theorem opx_lite {X:XT} (hX:XOk P X) {_fuel:Nat} {o:Oper} {st:St} {ρ:Rho} {ids:Ids} {k:St→Rho→Option R} {r:R}
    (h:lite X o.op st ρ (fun sv st' ρ'=>k (st'.put o.dst sv) ρ')=some r):∃ sv st' ρ',k (st'.put o.dst sv) ρ'=some r∧Ext st ρ st' ρ' ∧
      AOp P o (tauE st ρ ids) (stoE st.sto ρ ids) (fun x y=>x=evSV ρ' ids sv∧y=stoE st.sto ρ ids):=by
  obtain ⟨sv,st',ρ',h1,h2,h3⟩:=lite_ok hX (ids:=ids) h
  exact ⟨sv,st',ρ',h1,h2,h3 _ fun key o' _ hl=>by obtain ⟨j,hj⟩:=stoE_get (ρ:=ρ) (ids:=ids) hl; exact List.mem_of_getElem? hj⟩

theorem runOps_ok {X:XT} (hX:XOk P X) {env:List Sig} {n fuel:Nat} (henv:∀ g∈env,SigOk P g fuel) {ops:Array Oper} {nk0:Nat} {ids0:Ids} {G:R→Tau→Store→Prop} {k:St→Rho→Option R} (hk:GOk nk0 ids0 G k) :
    ∀ (l:List Oper),GOk nk0 ids0 (fun r=>AOps P n ops l (G r)) (runOps X env n fuel ops l k)
  | []=>fun st ρ ids r h0 hi h=>ao_nil (hk st ρ ids r h0 hi h)
  | o :: l=>fun st ρ ids r h0 hi h=>by
    have ih:=runOps_ok (n:=n) (ops:=ops) hX henv hk l
    simp only [runOps] at h
    split at h
    · rename_i hd
      rcases guardx_ok (ids:=ids) h with ⟨hg,h⟩ | ⟨hg,h⟩
      · unfold opx at h
        split at h
        · obtain ⟨Rr,q1,q2⟩:=heavy_ok hX henv (ids:=ids) h
          refine aops_yes hg hd q1 fun av s' hR=>?_
          obtain ⟨sv,st',ρ',ids',g1,g2,g3,g4,_,g7,g8⟩:=q2 av s' hR
          have:=ih _ _ ids' r (by rw [put_nk]; exact Nat.le_trans h0 g8) (hi.le g7 h0) g1
          rw [tauE_put,g4,put_sto] at this
          rw [g2,g3]; exact this
        · obtain ⟨sv,st',ρ',g1,g2,g3⟩:=opx_lite hX (_fuel:=fuel) (ids:=ids) h
          refine aops_yes hg hd g3 ?_
          rintro _ _ ⟨rfl,rfl⟩
          have:=ih _ _ ids r (by rw [put_nk,g2.2.2.1]; exact h0) hi g1
          rw [tauE_put,g2.tau,put_sto,g2.store] at this
          exact this
      · refine aops_no hg hd ?_
        have:=ih _ _ ids r (by rw [put_nk]; exact h0) hi h
        rw [tauE_put,put_sto] at this
        simpa only [evSV] using this
    · cases h

/-! ### regions that draw their order -/
inductive JS where
  | l (i:Nat)
  | h (i:Nat)
  | m (i:Nat)

def rdObs (st:St) (o:Op):List (Nat×OB):=(rdOf st o).filterMap fun key=>(lk st.sto key).map fun ob=>(key,ob)

def obsIn (sto:List (Nat×OB)):List (Nat×OB)→Bool
  | []=>true
  | p :: l=>(match lk sto p.1 with
    | some ob=>OB.beq ob p.2
    | none=>false) && obsIn sto l

def lockStep (preds:List Nat) (sto:List (Nat×OB)):List (Nat×Option (List (Nat×OB)))→Option (List (Nat×Option (List (Nat×OB))))
  | []=>some []
  | (j,some obs) :: l=>match obsIn sto obs with
    | true=>(lockStep preds sto l).bind fun l'=>some ((j,some obs) :: l')
    | false=>match memb j preds with
      | true=>(lockStep preds sto l).bind fun l'=>some ((j,none) :: l')
      | false=>none
  | (j,none) :: l=>match memb j preds with
    | true=>(lockStep preds sto l).bind fun l'=>some ((j,none) :: l')
    | false=>none

def runJ (X:XT) (env:List Sig) (n fuel:Nat) (ops:Array Oper):List JS→List Nat→List (Nat×Option (List (Nat×OB)))→(St→Rho→Option R)→St→Rho→Option R
  | [],Rd,_,k,st,ρ=>match allB ops.size (fun j=>memb j Rd) with
    | true=>k st ρ
    | false=>none
  | .l i :: js,Rd,locks,k,st,ρ=>match ops[i]? with
    | none=>none
    | some o=>match lightOk ops Rd i && inB o.dst n with
      | true=>guardx ops o st ρ
        (fun ρ=>lite X o.op st ρ fun sv st' ρ'=>runJ X env n fuel ops js (i :: Rd) ((i,some (rdObs st o.op)) :: locks) k (st'.put o.dst sv) ρ')
        (fun ρ=>runJ X env n fuel ops js (i :: Rd) ((i,some []) :: locks) k (st.put o.dst .und) ρ)
      | false=>none
  | .h i :: js,Rd,locks,k,st,ρ=>match ops[i]? with
    | none=>none
    | some o=>match inB o.dst n with
      | true=>guardx ops o st ρ
        (fun ρ=>match heavyOk ops Rd i with
          | true=>heavy X env fuel o.op st ρ fun sv st' ρ'=>(lockStep (predsOf ops i) st'.sto locks).bind fun locks'=>runJ X env n fuel ops js (i :: Rd) locks' k (st'.put o.dst sv) ρ'
          | false=>none)
        (fun ρ=>match lightOk ops Rd i with
          | true=>runJ X env n fuel ops js (i :: Rd) ((i,some []) :: locks) k (st.put o.dst .und) ρ
          | false=>none)
      | false=>none
  | .m i :: js,Rd,locks,k,st,ρ=>match ops[i]? with
    | none=>none
    | some o=>match inB o.dst n with
      | true=>guardx ops o st ρ
        (fun ρ=>match heavyOk ops Rd i with
          | true=>lite X o.op st ρ fun sv st' ρ'=>(lockStep (predsOf ops i) st'.sto locks).bind fun locks'=>runJ X env n fuel ops js (i :: Rd) locks' k (st'.put o.dst sv) ρ'
          | false=>none)
        (fun _=>none)
      | false=>none

def LR (sto:List (Nat×OB)) (ρ:Rho) (ids:Ids):List (Nat×Option (List (Nat×OB)))→List (Nat×Store)→Prop
  | [],l=>l=[]
  | (j,some obs) :: l,L=>∃ rd L',L=(j,rd) :: L'∧(∀ p∈rd,∃ q∈obs,lk sto q.1=some q.2∧p=(ids q.1,evOB ρ ids q.2))∧LR sto ρ ids l L'
  | (j,none) :: l,L=>∃ rd L',L=(j,rd) :: L'∧LR sto ρ ids l L'

theorem LR.mono {sto sto':List (Nat×OB)} {ρ ρ':Rho} {ids ids':Ids} (h:∀ key ob,lk sto key=some ob→lk sto' key=some ob∧(ids' key,evOB ρ' ids' ob)=(ids key,evOB ρ ids ob)) :
    ∀ {l:List (Nat×Option (List (Nat×OB)))} {L:List (Nat×Store)},LR sto ρ ids l L→LR sto' ρ' ids' l L
  | [],L,hl=>hl
  | (j,some obs) :: l,L,⟨rd,L',h1,h2,h3⟩=>⟨rd,L',h1,fun p hp=>by
      obtain ⟨q,hq,e1,e2⟩:=h2 p hp
      obtain ⟨g1,g2⟩:=h _ _ e1
      exact ⟨q,hq,g1,e2.trans g2.symm⟩,LR.mono h h3⟩
  | (j,none) :: l,L,⟨rd,L',h1,h3⟩=>⟨rd,L',h1,LR.mono h h3⟩

theorem obsIn_lk {sto:List (Nat×OB)}:∀ {l:List (Nat×OB)},obsIn sto l=true→∀ q∈l,lk sto q.1=some q.2
  | [],_,q,hq=>by cases hq
  | p :: l,h,q,hq=>by
    simp only [obsIn,Bool.and_eq_true] at h
    rcases List.mem_cons.1 hq with rfl | hq
    · have h1:=h.1
      split at h1
      · rename_i ob hl; rw [hl,OB.beq_eq h1]
      · cases h1
    · exact obsIn_lk h.2 q hq

theorem lockStep_ok {preds:List Nat} {sto sto':List (Nat×OB)} {ρ ρ':Rho} {ids ids':Ids} (h:∀ key ob,lk sto key=some ob→lk sto' key=some ob→(ids' key,evOB ρ' ids' ob)=(ids key,evOB ρ ids ob)) :
    ∀ {l l':List (Nat×Option (List (Nat×OB)))} {L:List (Nat×Store)},lockStep preds sto' l=some l'→LR sto ρ ids l L→LR sto' ρ' ids' l' L∧∀ x∈L,memb x.1 preds=true∨∀ p∈x.2,p∈stoE sto' ρ' ids'
  | [],l',L,hs,hl=>by
    cases hs
    simp only [LR] at hl
    subst hl
    exact ⟨rfl,fun x hx=>by cases hx⟩
  | (j,some obs) :: l,l',L,hs,⟨rd,L',h1,h2,h3⟩=>by
    subst h1
    simp only [lockStep] at hs
    split at hs
    · rename_i hin
      obtain ⟨l2,q1,q2⟩:=bind_some' hs
      cases q2
      obtain ⟨g1,g2⟩:=lockStep_ok h q1 h3
      have hin':=obsIn_lk hin
      refine ⟨⟨rd,L',rfl,fun p hp=>?_,g1⟩,fun x hx=>?_⟩
      · obtain ⟨q,hq,e1,e2⟩:=h2 p hp
        exact ⟨q,hq,hin' q hq,e2.trans (h _ _ e1 (hin' q hq)).symm⟩
      · rcases List.mem_cons.1 hx with rfl | hx
        · refine .inr fun p hp=>?_
          obtain ⟨q,hq,e1,e2⟩:=h2 p hp
          rw [e2,← h _ _ e1 (hin' q hq)]
          obtain ⟨jj,hj⟩:=stoE_get (ρ:=ρ') (ids:=ids') (hin' q hq)
          exact List.mem_of_getElem? hj
        · exact g2 x hx
    · split at hs
      · rename_i hm
        obtain ⟨l2,q1,q2⟩:=bind_some' hs
        cases q2
        obtain ⟨g1,g2⟩:=lockStep_ok h q1 h3
        refine ⟨⟨rd,L',rfl,g1⟩,fun x hx=>?_⟩
        rcases List.mem_cons.1 hx with rfl | hx
        · exact .inl hm
        · exact g2 x hx
      · cases hs
  | (j,none) :: l,l',L,hs,⟨rd,L',h1,h3⟩=>by
    subst h1
    simp only [lockStep] at hs
    split at hs
    · rename_i hm
      obtain ⟨l2,q1,q2⟩:=bind_some' hs
      cases q2
      obtain ⟨g1,g2⟩:=lockStep_ok h q1 h3
      refine ⟨⟨rd,L',rfl,g1⟩,fun x hx=>?_⟩
      rcases List.mem_cons.1 hx with rfl | hx
      · exact .inl hm
      · exact g2 x hx
    · cases hs

theorem stoE_ev {sto:List (Nat×OB)} {ρ ρ':Rho} {ids ids':Ids} (h:stoE sto ρ' ids'=stoE sto ρ ids) {key:Nat} {ob:OB} (hl:lk sto key=some ob):(ids' key,evOB ρ' ids' ob)=(ids key,evOB ρ ids ob) :=
  map_eq_mem h _ (lk_mem hl)

theorem runJ_ok {X:XT} (hX:XOk P X) {env:List Sig} {n fuel:Nat} (henv:∀ g∈env,SigOk P g fuel) {ops:Array Oper} {nk0:Nat} {ids0:Ids} {G:R→Tau→Store→Prop} {k:St→Rho→Option R} (hk:GOk nk0 ids0 G k) :
    ∀ (js:List JS) (Rd:List Nat) (locks:List (Nat×Option (List (Nat×OB)))) (L:List (Nat×Store)) st ρ ids r,nk0≤st.nk→Ids.agree nk0 ids0 ids→runJ X env n fuel ops js Rd locks k st ρ=some r→LR st.sto ρ ids locks L→J P n ops (G r) Rd L (tauE st ρ ids) (stoE st.sto ρ ids)
  | [],Rd,locks,L,st,ρ,ids,r,h0,hi,h,hL=>by
    simp only [runJ] at h
    split at h
    · rename_i hb; exact .done hb (hk st ρ ids r h0 hi h)
    · cases h
  | .l i :: js,Rd,locks,L,st,ρ,ids,r,h0,hi,h,hL=>by
    simp only [runJ] at h
    split at h
    · cases h
    · rename_i o ho
      split at h
      · rename_i hb
        simp only [Bool.and_eq_true] at hb
        rcases guardx_ok (ids:=ids) h with ⟨hg,h⟩ | ⟨hg,h⟩
        · obtain ⟨sv,st',ρ',g1,g2,g3⟩:=lite_ok hX (ids:=ids) h
          refine .light i o (evSV ρ' ids sv) ((rdObs st o.op).map fun q=>(ids q.1,evOB ρ ids q.2)) ho hb.1 hb.2 (.inr ⟨hg,fun s hs=>g3 s fun key ob hm hl=>?_⟩) (fun p hp=>?_) ?_
          · refine hs _ ?_
            refine List.mem_map.2 ⟨(key,ob),?_,rfl⟩
            unfold rdObs
            exact List.mem_filterMap.2 ⟨key,memb_iff.1 hm,by rw [hl]; rfl⟩
          · obtain ⟨q,hq,rfl⟩:=List.mem_map.1 hp
            unfold rdObs at hq
            obtain ⟨key,hk1,hk2⟩:=List.mem_filterMap.1 hq
            cases hl:lk st.sto key with
            | none=>rw [hl] at hk2; cases hk2
            | some ob =>
              rw [hl] at hk2
              cases hk2
              obtain ⟨jj,hj⟩:=stoE_get (ρ:=ρ) (ids:=ids) hl
              exact List.mem_of_getElem? hj
          · have hst:∀ key ob,lk st.sto key=some ob→lk (st'.put o.dst sv).sto key=some ob∧(ids key,evOB ρ' ids ob)=(ids key,evOB ρ ids ob):=fun key ob hl=>by
              rw [put_sto,g2.2.1]
              exact ⟨hl,stoE_ev (g2.2.2.2 ids).2 hl⟩
            have:=runJ_ok hX henv hk js (i :: Rd) _ ((i,(rdObs st o.op).map fun q=>(ids q.1,evOB ρ ids q.2)) :: L) _ _ ids r (by rw [put_nk,g2.2.2.1]; exact h0) hi g1 ⟨_,_,rfl,fun p hp=>by
                obtain ⟨q,hq,rfl⟩:=List.mem_map.1 hp
                have hq0:=hq
                unfold rdObs at hq
                obtain ⟨key,hk1,hk2⟩:=List.mem_filterMap.1 hq
                cases hl:lk st.sto key with
                | none=>rw [hl] at hk2; cases hk2
                | some ob =>
                  rw [hl] at hk2
                  cases hk2
                  obtain ⟨e1,e2⟩:=hst key ob hl
                  exact ⟨_,hq0,e1,e2.symm⟩,LR.mono hst hL⟩
            rw [tauE_put,g2.tau,put_sto,g2.store] at this
            exact this
        · refine .light i o (.lit undef) [] ho hb.1 hb.2 (.inl ⟨hg,rfl⟩) (fun p hp=>by cases hp) ?_
          have:=runJ_ok hX henv hk js (i :: Rd) _ ((i,[]) :: L) _ _ ids r (by rw [put_nk]; exact h0) hi h ⟨[],L,rfl,(fun p hp=>absurd hp (List.not_mem_nil)),(by rw [put_sto]; exact hL)⟩
          rw [tauE_put,put_sto] at this
          simpa only [evSV] using this
      · cases h
  | .h i :: js,Rd,locks,L,st,ρ,ids,r,h0,hi,h,hL=>by
    simp only [runJ] at h
    split at h
    · cases h
    · rename_i o ho
      split at h
      · rename_i hd
        rcases guardx_ok (ids:=ids) h with ⟨hg,h⟩ | ⟨hg,h⟩
        · split at h
          · rename_i hhk
            obtain ⟨Rr,q1,q2⟩:=heavy_ok hX henv (ids:=ids) h
            have key:∀ av s',Rr av s'→(∀ x∈L,memb x.1 (predsOf ops i)=true∨∀ p∈x.2,p∈s')∧J P n ops (G r) (i :: Rd) L ((tauE st ρ ids).put o.dst av) s':=by
              intro av s' hR
              obtain ⟨sv,st',ρ',ids',g1,g2,g3,g4,g6,g7,g8⟩:=q2 av s' hR
              obtain ⟨locks',e1,g1⟩:=bind_some' g1
              obtain ⟨e2,e3⟩:=lockStep_ok g6 e1 hL
              have:=runJ_ok hX henv hk js (i :: Rd) locks' L _ _ ids' r (by rw [put_nk]; exact Nat.le_trans h0 g8) (hi.le g7 h0) g1 (by rw [put_sto]; exact e2)
              rw [tauE_put,g4,put_sto] at this
              rw [g2,g3]
              exact ⟨e3,this⟩
            exact .heavy i o Rr ho hhk hd hg q1 (fun av s' hR=>(key av s' hR).1) (fun av s' hR=>(key av s' hR).2)
          · cases h
        · split at h
          · rename_i hlk
            refine .light i o (.lit undef) [] ho hlk hd (.inl ⟨hg,rfl⟩) (fun p hp=>by cases hp) ?_
            have:=runJ_ok hX henv hk js (i :: Rd) _ ((i,[]) :: L) _ _ ids r (by rw [put_nk]; exact h0) hi h ⟨[],L,rfl,(fun p hp=>absurd hp (List.not_mem_nil)),(by rw [put_sto]; exact hL)⟩
            rw [tauE_put,put_sto] at this
            simpa only [evSV] using this
          · cases h
      · cases h
  | .m i :: js,Rd,locks,L,st,ρ,ids,r,h0,hi,h,hL=>by
    simp only [runJ] at h
    split at h
    · cases h
    · rename_i o ho
      split at h
      · rename_i hd
        rcases guardx_ok (ids:=ids) h with ⟨hg,h⟩ | ⟨hg,h⟩
        · split at h
          · rename_i hhk
            obtain ⟨sv,st',ρ',g1,g2,g3⟩:=lite_ok hX (ids:=ids) h
            obtain ⟨locks',e1,g1⟩:=bind_some' g1
            have q1:AOp P o (tauE st ρ ids) (stoE st.sto ρ ids) (fun x y=>x=evSV ρ' ids sv∧y=stoE st.sto ρ ids) :=
              g3 _ fun key o' _ hl=>by obtain ⟨j,hj⟩:=stoE_get (ρ:=ρ) (ids:=ids) hl; exact List.mem_of_getElem? hj
            obtain ⟨e2,e3⟩:=lockStep_ok (sto:=st.sto) (ρ:=ρ) (ρ':=ρ') (ids:=ids) (ids':=ids) (fun key ob hl _=>stoE_ev (g2.2.2.2 ids).2 hl) e1 hL
            rw [g2.store] at e3
            have key:=runJ_ok hX henv hk js (i :: Rd) locks' L _ _ ids r (by rw [put_nk,g2.2.2.1]; exact h0) hi g1 (by rw [put_sto]; exact e2)
            rw [tauE_put,g2.tau,put_sto,g2.store] at key
            exact .heavy i o _ ho hhk hd hg q1 (by rintro av s' ⟨rfl,rfl⟩; exact e3) (by rintro av s' ⟨rfl,rfl⟩; exact key)
          · cases h
        · cases h
      · cases h
end
end Go.Sx

/- The executor, part 10: code, loops, functions. -/
namespace Go.Sx
open Go Go.Am

inductive Ad where
  | t (tmp e:Nat) (τ:Ty)
  | c (tmp cell e:Nat) (τ:Ty)
  | f (tmp:Nat)

structure LH (R:Type) where
  Γ:List Ty
  live:List (Nat×SV)
  sto:List (Nat×OB):=[]
  nk:Nat:=0
  ad:List Ad:=[]
  F:Nat→Vals Γ→Option R

structure Hints (R:Type) where
  keep:List (Nat×List Nat):=[]
  ord:List (Nat×List JS):=[]
  loops:List (Nat×LH R):=[]
  unr:List (Nat×Nat):=[]
  adr:List (Nat×List Ad):=[]
  cuts:List (Nat×LH R):=[]

section
variable {P:Program} {R:Type}

def adopt1 (a:Ad) (st:St) (ρ:Rho) (k:St→Rho→Option R):Option R:=match a with
  | .t tmp e τ=>match lk st.live tmp with
    | some .nils=>(match (st.ok:Bool) with | true=>k { live:=(tmp,.row st.nk st.nv) :: st.live,sto:=(st.nk,.list e st.nv none) :: st.sto,nv:=st.nv+1,nk:=st.nk+1 } (updL ρ st.nv [⟨.list false τ,[]⟩]) | false=>none)
    | _=>k st ρ
  | .c tmp cell e τ=>match lk st.live tmp with
    | some (.ref key _)=>match lk st.sto key with
      | some (.cells e0 sz0 cs false)=>match cs[cell]? with
        | some .nils=>(match (st.ok:Bool) with | true=>k { live:=st.live,sto:=(st.nk,.list e st.nv none) :: setK key (.cells e0 sz0 (cs.set cell (.row st.nk st.nv)) false) st.sto,nv:=st.nv+1,nk:=st.nk+1 } (updL ρ st.nv [⟨.list false τ,[]⟩]) | false=>none)
        | _=>k st ρ
      | _=>none
    | _=>none
  | .f tmp=>match lk st.live tmp with
    | some (.row key j)=>match listOf ρ (.var j) with
      | some ⟨τ,_l⟩=>(fun sto1=>(asTy 40 sto1 ρ (.list false τ) (.row key j)).bind fun v=>(match (st.ok && stoOk st.nv st.nk sto1:Bool) with
          | true=>k { live:=(tmp,.var st.nv) :: st.live,sto:=sto1,nv:=st.nv+1,nk:=st.nk } (updL ρ st.nv [⟨.list false τ,v⟩])
          | false=>none)) (frzL [key] st.sto)
      | none=>none
    | _=>k st ρ
def adopts:List Ad→St→Rho→(St→Rho→Option R)→Option R
  | [],st,ρ,k=>k st ρ
  | a :: l,st,ρ,k=>adopt1 a st ρ fun st ρ=>adopts l st ρ k

theorem adopt1_ok {nk0:Nat} {ids0:Ids} {a:Ad} {st:St} {ρ:Rho} {k:St→Rho→Option R} {r:R} (h:adopt1 a st ρ k=some r) :
    ∃ st' ρ',k st' ρ'=some r∧st.nk≤st'.nk∧∀ (ids:Ids) (n:Nat) (c:Code) (Q:APost),nk0≤st.nk→Ids.agree nk0 ids0 ids→(∀ ids',Ids.agree nk0 ids0 ids'→AWp P n c Q (tauE st' ρ' ids') (stoE st'.sto ρ' ids'))→AWp P n c Q (tauE st ρ ids) (stoE st.sto ρ ids):=by
  unfold adopt1 at h
  split at h
  · rename_i tmp e τ
    split at h
    · rename_i hl
      split at h
      · rename_i hok
        simp only [St.ok,Bool.and_eq_true] at hok
        refine ⟨_,_,h,Nat.le_succ _,fun ids n c Q h0 hi hk=>?_⟩
        refine aw_adopt tmp e τ.n (by simp [tauE,hl,evSV]) fun id=>?_
        have:=hk (updI ids st.nk id) (hi.le (updI_agree ids st.nk id) h0)
        have hR:=updL_agree ρ st.nv [⟨.list false τ,[]⟩]
        have hI:=updI_agree ids st.nk id
        have e1:=tauE_agree hR hI hok.1
        have e2:=stoE_agree hR hI hok.2
        have e3:tauE { live:=(tmp,.row st.nk st.nv) :: st.live,sto:=(st.nk,.list e st.nv none) :: st.sto,nv:=st.nv+1,nk:=st.nk+1 } (updL ρ st.nv [⟨.list false τ,[]⟩]) (updI ids st.nk id)=(tauE st ρ ids).put (some tmp) (.row id 0):=by
          rw [← e1]
          funext j
          simp only [tauE,Tau.put,lk]
          cases Nat.beq j tmp with
          | true=>simp only [if_true,evSV,updI_self,updL_one,dlen,List.length_nil]
          | false=>rfl
        rw [e3] at this
        have e5:∀ l ρ ids,stoE ((st.nk,.list e st.nv none) :: l) ρ ids=(ids st.nk,evOB ρ ids (.list e st.nv none)) :: stoE l ρ ids:=fun _ _ _=>rfl
        simp only [e5,e2] at this
        simp only [updI_self,evOB,updL_one,fzLen,List.flatMap_nil] at this
        exact this
      · cases h
    · exact ⟨st,ρ,h,Nat.le_refl _,fun ids n c Q h0 hi hk=>hk ids hi⟩
  · rename_i tmp cell e τ
    split at h
    · rename_i key off hl
      split at h
      · rename_i e0 sz0 cs hk0
        split at h
        · rename_i hc
          split at h
          · rename_i hok
            simp only [St.ok,Bool.and_eq_true] at hok
            refine ⟨_,_,h,Nat.le_succ _,fun ids n c Q h0 hi hk=>?_⟩
            obtain ⟨h1,h2,h3⟩:=setK_idx (ρ:=ρ) (ids:=ids) (o':=.cells e0 sz0 cs false) hk0
            simp only [evOB,Bool.false_eq_true,if_false] at h1
            refine aw_adoptCell cell e τ.n h1 (by rw [evSVs_get ρ ids hc]; simp [evSV]) fun id=>?_
            have:=hk (updI ids st.nk id) (hi.le (updI_agree ids st.nk id) h0)
            have hR:=updL_agree ρ st.nv [⟨.list false τ,[]⟩]
            have hI:=updI_agree ids st.nk id
            have e1:=tauE_agree hR hI hok.1
            have e2:=stoE_agree hR hI hok.2
            have e3:tauE { live:=st.live,sto:=(st.nk,.list e st.nv none) :: setK key (.cells e0 sz0 (cs.set cell (.row st.nk st.nv)) false) st.sto,nv:=st.nv+1,nk:=st.nk+1 } (updL ρ st.nv [⟨.list false τ,[]⟩]) (updI ids st.nk id)=tauE st ρ ids:=e1
            rw [e3] at this
            obtain ⟨g1,g2,_⟩:=setK_idx (ρ:=updL ρ st.nv [⟨.list false τ,[]⟩]) (ids:=updI ids st.nk id) (o':=.cells e0 sz0 (cs.set cell (.row st.nk st.nv)) false) hk0
            have hcs:=(stoOk_lk hok.2 hk0).2
            simp only [OB.ok] at hcs
            have hkey:=(stoOk_lk hok.2 hk0).1
            have e4:stoE (setK key (.cells e0 sz0 (cs.set cell (.row st.nk st.nv)) false) st.sto) (updL ρ st.nv [⟨.list false τ,[]⟩]) (updI ids st.nk id) =
                (stoE st.sto ρ ids).set (idxK key st.sto) (ids key,.row e0 sz0 ((evSVs ρ ids cs).set cell (.row id 0)) 0):=by
              rw [← g2,e2,hI key hkey]
              simp only [evOB,Bool.false_eq_true,if_false]
              congr 3
              rw [evSVs_map,List.map_set,← evSVs_map,evSVs_agree hR hI cs hcs]
              simp only [evSV,updI_self,updL_one,dlen,List.length_nil]
            have e5:∀ l ρ ids,stoE ((st.nk,.list e st.nv none) :: l) ρ ids=(ids st.nk,evOB ρ ids (.list e st.nv none)) :: stoE l ρ ids:=fun _ _ _=>rfl
            simp only [e5,e4] at this
            simp only [updI_self,evOB,updL_one,fzLen,List.flatMap_nil] at this
            exact this
          · cases h
        · exact ⟨st,ρ,h,Nat.le_refl _,fun ids n c Q h0 hi hk=>hk ids hi⟩
      · cases h
    · cases h
  · rename_i tmp
    split at h
    · rename_i key j hl
      split at h
      · rename_i τ l hll
        obtain ⟨v,hv,h⟩:=bind_some' h
        split at h
        · rename_i hb
          simp only [Bool.and_eq_true,St.ok] at hb
          refine ⟨_,_,h,Nat.le_refl _,fun ids n c Q h0 hi hk=>?_⟩
          have hR:=updL_agree ρ st.nv [⟨.list false τ,v⟩]
          have hview:=asTy_view (ids:=ids) _ _ _ _ hv
          have e1:=tauE_agree (st:=st) (i:=ids) (i':=ids) hR (fun _ _=>rfl) hb.1.1
          have e2:=stoE_agree (i:=ids) (i':=ids) hR (fun _ _=>rfl) hb.2
          have:=hk ids hi
          simp only at this
          rw [e2] at this
          have e3:tauE { live:=(tmp,.var st.nv) :: st.live,sto:=frzL [key] st.sto,nv:=st.nv+1,nk:=st.nk } (updL ρ st.nv [⟨.list false τ,v⟩]) ids=(tauE st ρ ids).put (some tmp) (.slc (v.flatMap τ.cells) v.length false):=by
            rw [← e1]
            funext i
            simp only [tauE,Tau.put,lk]
            cases Nat.beq i tmp with
            | true=>simp only [if_true,evSV,updL_one]; rfl
            | false=>rfl
          rw [e3] at this
          have sh:=Shift.frzL (t:=tauE st ρ ids) (ρ:=ρ) (ids:=ids) [key] st.sto []
          simp only [List.nil_append] at sh
          refine aw_shift sh (aw_shift (Shift.view tmp (x:=evSV ρ ids (.row key j)) ?_ hview) this)
          simp only [tauE,hl]
        · cases h
      · cases h
    · exact ⟨st,ρ,h,Nat.le_refl _,fun ids n c Q h0 hi hk=>hk ids hi⟩

theorem adopts_ok {nk0:Nat} {ids0:Ids}:∀ {l:List Ad} {st:St} {ρ:Rho} {k:St→Rho→Option R} {r:R},adopts l st ρ k=some r →
    ∃ st' ρ',k st' ρ'=some r∧st.nk≤st'.nk∧∀ (ids:Ids) (n:Nat) (c:Code) (Q:APost),nk0≤st.nk→Ids.agree nk0 ids0 ids→(∀ ids',Ids.agree nk0 ids0 ids'→AWp P n c Q (tauE st' ρ' ids') (stoE st'.sto ρ' ids'))→AWp P n c Q (tauE st ρ ids) (stoE st.sto ρ ids)
  | [],st,ρ,k,r,h=>⟨st,ρ,h,Nat.le_refl _,fun ids n c Q h0 hi hk=>hk ids hi⟩
  | a :: l,st,ρ,k,r,h=>by
    obtain ⟨st1,ρ1,h1,h5,h2⟩:=adopt1_ok (P:=P) (nk0:=nk0) (ids0:=ids0) h
    obtain ⟨st2,ρ2,h3,h6,h4⟩:=adopts_ok (nk0:=nk0) (ids0:=ids0) h1
    exact ⟨st2,ρ2,h3,Nat.le_trans h5 h6,fun ids n c Q h0 hi hk=>h2 ids n c Q h0 hi fun ids1 hi1=>h4 ids1 n c Q (Nat.le_trans h0 h5) hi1 hk⟩

def actuals (live:List (Nat×SV)):List (Nat×SV)→Option (List SV)
  | []=>some []
  | p :: l=>match lk live p.1 with
    | none=>none
    | some a=>match actuals live l with
      | none=>none
      | some as=>some (a :: as)
def snds {α β:Type}:List (α×β)→List β
  | []=>[]
  | p :: l=>p.2 :: snds l

theorem actuals_chk {live:List (Nat×SV)} {V:Asg} {K:KAsg}:∀ {l:List (Nat×SV)} {as:List SV},actuals live l=some as→chks V K (snds l) as=true→∀ k p,lk l k=some p→∃ a,lk live k=some a∧chk V K p a=true
  | [],_,_,_,k,p,h=>by simp [lk] at h
  | (k',p') :: l,as,h,hc,k,p,hk=>by
    simp only [actuals] at h
    split at h
    · cases h
    · rename_i a ha
      split at h
      · cases h
      · rename_i as' hs
        cases h
        simp only [snds,chks,Bool.and_eq_true] at hc
        unfold lk at hk
        by_cases e:k=k'
        · subst e
          rw [nbeq_self,if_pos rfl] at hk
          cases hk
          exact ⟨a,ha,hc.1⟩
        · rw [nbeq_ne e] at hk
          exact actuals_chk (l:=l) hs hc.2 k p hk

def idK:Nat→KAsg
  | 0=>[]
  | n+1=>(n,n) :: idK n
def sameK:Nat→KAsg→Bool
  | 0,_=>true
  | n+1,K=>keyEq K n n && sameK n K
theorem sameK_lk {K:KAsg}:∀ {n k:Nat},sameK n K=true→k<n→lk K k=some k
  | 0,_,_,h=>by omega
  | n+1,k,hs,h=>by
    simp only [sameK,Bool.and_eq_true] at hs
    by_cases e:k=n
    · subst e; exact keyEq_lk hs.1
    · exact sameK_lk hs.2 (by omega)

def headSt (L:LH R):St:={ live:=L.live,sto:=L.sto,nv:=L.Γ.length,nk:=L.nk }

def enter (nk0:Nat) (L:LH R) (st:St) (ρ:Rho) (g:Vals L.Γ→Option R):Option R:=adopts L.ad st ρ fun st ρ=>match actuals st.live L.live with
  | none=>none
  | some as=>match mt (snds L.live) as L.sto L.Γ.length [] st.sto with
    | none=>none
    | some m=>match sameK nk0 m.K && Nat.ble nk0 L.nk with
      | true=>(vals m.sto ρ m.V 0 L.Γ).bind g
      | false=>none

theorem cast_ok {st:St} {ρ:Rho} {ids:Ids} {plive:List (Nat×SV)} {psto:List (Nat×OB)} {Γ:List Ty} {as:List SV} {m:Mt} {x:Vals Γ} {nv nk:Nat} {n:Nat} {c:Code} {Q:APost}
    (ha:actuals st.live plive=some as) (hm:mt (snds plive) as psto Γ.length [] st.sto=some m) (hx:vals m.sto ρ m.V 0 Γ=some x)
    (hk:AWp P n c Q (tauE ⟨plive,psto,nv,nk⟩ (toRho Γ x) (kIds m.K ids)) (stoE psto (toRho Γ x) (kIds m.K ids))):AWp P n c Q (tauE st ρ ids) (stoE st.sto ρ ids):=by
  obtain ⟨hchk,hasg,⟨used,hsto⟩,ks,hfrz⟩:=mt_ok hm
  refine aw_shift (fun w mu i a hr ht=>?_) hk
  have sh:=Shift.frzL (t:=tauE st ρ ids) (ρ:=ρ) (ids:=ids) ks st.sto []
  simp only [List.nil_append] at sh
  rw [← hfrz] at sh
  obtain ⟨m1,i1,r1,r2,r3⟩:=sh w mu i a hr ht
  obtain ⟨q1,q2,q3,q4,q5⟩:=match_ok r1 hx hasg hsto
  refine ⟨m1,i1,q3.sub (List.sublist_append_left _ _),fun j=>?_,r3.trans (Step.same fun p hp=>q4 p (List.mem_append_left _ hp))⟩
  simp only [tauE]
  cases hl:lk plive j with
  | none=>exact trivial
  | some p =>
    obtain ⟨b,hb,hc⟩:=actuals_chk ha hchk j p hl
    refine q1 p b hc _ ?_
    have:=r2 j
    simp only [tauE,hb] at this
    exact this

theorem enter_ok {nk0:Nat} {ids0:Ids} {L:LH R} {st:St} {ρ:Rho} {g:Vals L.Γ→Option R} {r:R} (h:enter nk0 L st ρ g=some r) :
    ∃ x,g x=some r∧nk0≤L.nk∧∀ (ids:Ids) (n:Nat) (c:Code) (Q:APost),nk0≤st.nk→Ids.agree nk0 ids0 ids→(∀ ids',Ids.agree nk0 ids0 ids'→AWp P n c Q (tauE (headSt L) (toRho L.Γ x) ids') (stoE L.sto (toRho L.Γ x) ids'))→AWp P n c Q (tauE st ρ ids) (stoE st.sto ρ ids):=by
  obtain ⟨st1,ρ1,h1,h5,h2⟩:=adopts_ok (P:=P) (nk0:=nk0) (ids0:=ids0) h
  split at h1
  · cases h1
  · rename_i as ha
    split at h1
    · cases h1
    · rename_i m hm
      split at h1
      · rename_i hb
        simp only [Bool.and_eq_true] at hb
        obtain ⟨x,hx,hg⟩:=bind_some' h1
        exact ⟨x,hg,Nat.le_of_ble_eq_true hb.2,fun ids n c Q h0 hi hk=>h2 ids n c Q h0 hi fun ids1 hi1=>cast_ok ha hm hx (hk _ fun k hk=>by rw [kIds_lk (sameK_lk hb.1 hk)]; exact hi1 k hk)⟩
      · cases h1

/-! ### code -/
def firstR:Code→Option Nat
  | .region id _ _=>some id
  | .seq a b=>match firstR a with
    | some x=>some x
    | none=>firstR b
  | .cond _ a b=>match firstR a with
    | some x=>some x
    | none=>firstR b
  | .block _ a=>firstR a
  | .loop a=>firstR a
  | _=>none
def keyOf (c:Code):Nat:=match firstR c with
  | some x=>x
  | none=>0

def keepL (ks:List Nat):List (Nat×SV)→List (Nat×SV)
  | []=>[]
  | p :: l=>if memb p.1 ks then p :: keepL ks l else keepL ks l
theorem keepL_lk {ks:List Nat}:∀ {l:List (Nat×SV)} {k:Nat},lk (keepL ks l) k=none∨lk (keepL ks l) k=lk l k
  | [],k=>.inl rfl
  | p :: l,k=>by
    unfold keepL
    split
    · rename_i hm
      unfold lk
      by_cases e:k=p.1
      · subst e; rw [nbeq_self,if_pos rfl]; exact .inr rfl
      · rw [nbeq_ne e]; exact keepL_lk (l:=l)
    · rename_i hm
      by_cases e:k=p.1
      · -- it is gone at all places
        left
        have gone:∀ (l:List (Nat×SV)),lk (keepL ks l) k=none:=by
          intro l
          induction l with
          | nil=>rfl
          | cons q l ih =>
            unfold keepL
            split
            · rename_i hq
              have:k≠q.1:=fun e2=>hm (by rw [← e,e2]; exact hq)
              unfold lk
              rw [nbeq_ne this]; exact ih
            · exact ih
        exact gone l
      · have:=keepL_lk (ks:=ks) (l:=l) (k:=k)
        have e2:lk (p :: l) k=lk l k:=by show (if Nat.beq k p.1 then _ else _)=_; rw [nbeq_ne e]; rfl
        rw [e2]; exact this
def keepSt (H:Hints R) (id:Nat) (st:St):St:=match lk H.keep id with
  | none=>st
  | some ks=>{ live:=keepL ks st.live,sto:=st.sto,nv:=st.nv,nk:=st.nk }
theorem keepSt_sub {H:Hints R} {id:Nat} {st:St} {ρ:Rho} {ids:Ids}:∀ k,tauE (keepSt H id st) ρ ids k=.any∨tauE (keepSt H id st) ρ ids k=tauE st ρ ids k:=by
  intro k
  unfold keepSt
  split
  · exact .inr rfl
  · rename_i ks _
    simp only [tauE]
    rcases keepL_lk (ks:=ks) (l:=st.live) (k:=k) with h | h
    · rw [h]; exact .inl rfl
    · rw [h]; exact .inr rfl
theorem keepSt_nk {H:Hints R} {id:Nat} {st:St}:(keepSt H id st).nk=st.nk:=by unfold keepSt; split <;> rfl
theorem keepSt_sto {H:Hints R} {id:Nat} {st:St}:(keepSt H id st).sto=st.sto:=by unfold keepSt; split <;> rfl

abbrev Kont (R:Type):=Nat→Exit→St→Rho→Option R

def seqK (b:Kont R→Nat→St→Rho→Option R) (k:Kont R):Kont R:=fun fuel e=>match e with
  | .normal=>b k fuel
  | e=>k fuel e
def blkK (id:Nat) (k:Kont R):Kont R:=fun fuel e=>match e with
  | .exit j=>match Nat.beq j id with
    | true=>k fuel .normal
    | false=>k fuel (.exit j)
  | e=>k fuel e
def loopK (nk0:Nat) (L:LH R) (k:Kont R):Kont R:=fun fuel e=>match e with
  | .normal=>fun st ρ=>enter nk0 L st ρ fun x=>L.F fuel x
  | e=>k fuel e
def unrl (body:Kont R→Nat→St→Rho→Option R) (k:Kont R):Nat→Nat→St→Rho→Option R
  | 0,_,_,_=>none
  | m+1,fuel,st,ρ=>body (fun fuel e=>match e with
    | .normal=>unrl body k m fuel
    | e=>k fuel e) fuel st ρ

def cutB (nk0:Nat) (H:Hints R) (key:Nat) (b:Kont R→Nat→St→Rho→Option R):Kont R→Nat→St→Rho→Option R:=match lk H.cuts key with
  | none=>b
  | some L=>fun _ fuel st ρ=>enter nk0 L st ρ fun x=>L.F fuel x

def regx (X:XT) (env:List Sig) (n:Nat) (H:Hints R) (id:Nat) (ops:Array Oper) (draw:Bool) (k:Kont R) (fuel:Nat) (st:St) (ρ:Rho):Option R:=match draw with
  | false=>runOps X env n fuel ops ops.toList (fun st ρ=>k fuel .normal st ρ) (keepSt H id st) ρ
  | true=>match lk H.ord id with
    | none=>none
    | some js=>match backB ops with
      | true=>runJ X env n fuel ops js [] [] (fun st ρ=>k fuel .normal st ρ) (keepSt H id st) ρ
      | false=>none

def sx (X:XT) (env:List Sig) (n nk0:Nat) (H:Hints R):Code→Kont R→Nat→St→Rho→Option R
  | .skip,k,fuel,st,ρ=>k fuel .normal st ρ
  | .region id ops draw,k,fuel,st,ρ=>match lk H.adr id with
    | none=>regx X env n H id ops draw k fuel st ρ
    | some l=>adopts l st ρ fun st ρ=>regx X env n H id ops draw k fuel st ρ
  | .seq a b,k,fuel,st,ρ=>sx X env n nk0 H a (seqK (cutB nk0 H (keyOf b) (sx X env n nk0 H b)) k) fuel st ρ
  | .cond c a b,k,fuel,st,ρ=>match opd' st.live c with
    | none=>none
    | some sv=>ifB ρ sv (fun ρ=>sx X env n nk0 H a k fuel st ρ) (fun ρ=>sx X env n nk0 H b k fuel st ρ)
  | .block id a,k,fuel,st,ρ=>sx X env n nk0 H a (blkK id k) fuel st ρ
  | .loop a,k,fuel,st,ρ=>match lk H.unr (keyOf a) with
    | some N=>unrl (sx X env n nk0 H a) k N fuel st ρ
    | none=>match lk H.loops (keyOf a) with
      | some L=>enter nk0 L st ρ fun x=>L.F fuel x
      | none=>none
  | .exit id,k,fuel,st,ρ=>k fuel (.exit id) st ρ
  | .ret,k,fuel,st,ρ=>k fuel .ret st ρ
  | _,_,_,_,_=>none

def LoopsOk (X:XT) (env:List Sig) (n nk0:Nat) (H:Hints R):Code→Kont R→Prop
  | .seq a b,k=>LoopsOk X env n nk0 H a (seqK (cutB nk0 H (keyOf b) (sx X env n nk0 H b)) k)∧(match lk H.cuts (keyOf b) with
    | some L=>(∀ x,L.F 0 x=none)∧∀ fuel x,L.F (fuel+1) x=sx X env n nk0 H b k fuel (headSt L) (toRho L.Γ x)
    | none=>True)∧LoopsOk X env n nk0 H b k
  | .cond _ a b,k=>LoopsOk X env n nk0 H a k∧LoopsOk X env n nk0 H b k
  | .block id a,k=>LoopsOk X env n nk0 H a (blkK id k)
  | .loop a,k=>match lk H.unr (keyOf a) with
    | some _=>∀ k',LoopsOk X env n nk0 H a k'
    | none=>match lk H.loops (keyOf a) with
      | some L=>((∀ x,L.F 0 x=none)∧∀ fuel x,L.F (fuel+1) x=sx X env n nk0 H a (loopK nk0 L k) fuel (headSt L) (toRho L.Γ x))∧LoopsOk X env n nk0 H a (loopK nk0 L k)
      | none=>True
  | _,_=>True

theorem aw_sub {n:Nat} {c:Code} {Q:APost} {t t':Tau} {s:Store} (h:∀ k,t' k=.any∨t' k=t k) (k:AWp P n c Q t' s):AWp P n c Q t s :=
  fun a w m i h1 h2 h3 h4=>k a w m i h1 (h2.sub h) h3 h4

theorem sx_ok {X:XT} (hX:XOk P X) (hmix:P.follows .mixedOrders=true) {env:List Sig} {F0:Nat} (henv:∀ fuel,fuel≤F0→∀ g∈env,SigOk P g fuel) {n nk0:Nat} {ids0:Ids} {H:Hints R} :
    ∀ (c:Code) (F:Nat) (_:F≤F0) (k:Kont R) (Q:R→APost),LoopsOk X env n nk0 H c k→(∀ fuel,fuel≤F→∀ e st ρ ids r,nk0≤st.nk→Ids.agree nk0 ids0 ids→k fuel e st ρ=some r→Q r e (tauE st ρ ids) (stoE st.sto ρ ids)) →
      ∀ fuel,fuel≤F→∀ st ρ ids r,nk0≤st.nk→Ids.agree nk0 ids0 ids→sx X env n nk0 H c k fuel st ρ=some r→AWp P n c (Q r) (tauE st ρ ids) (stoE st.sto ρ ids):=by
  intro c
  induction c with
  | skip=>intro F hF k Q _ hk fuel hf st ρ ids r h0 hi h; exact aw_skip (hk fuel hf _ _ _ ids r h0 hi h)
  | exit id=>intro F hF k Q _ hk fuel hf st ρ ids r h0 hi h; exact aw_exit (hk fuel hf _ _ _ ids r h0 hi h)
  | ret=>intro F hF k Q _ hk fuel hf st ρ ids r h0 hi h; exact aw_ret (hk fuel hf _ _ _ ids r h0 hi h)
  | region id ops draw =>
    intro F hF k Q _ hk fuel hf st ρ ids r h0 hi h
    simp only [sx] at h
    have main:∀ st ρ ids,nk0≤st.nk→Ids.agree nk0 ids0 ids→regx X env n H id ops draw k fuel st ρ=some r→AWp P n (.region id ops draw) (Q r) (tauE st ρ ids) (stoE st.sto ρ ids):=by
      intro st ρ ids h0 hi h
      refine aw_sub (keepSt_sub (H:=H) (id:=id)) ?_
      rw [← keepSt_sto (H:=H) (id:=id) (st:=st)]
      unfold regx at h
      split at h
      · have:=runOps_ok (P:=P) (n:=n) (ops:=ops) (G:=fun r=>Q r .normal) hX (henv fuel (Nat.le_trans hf hF)) (nk0:=nk0) (ids0:=ids0) (fun st ρ ids r h0 hi h=>hk fuel hf .normal st ρ ids r h0 hi h) ops.toList _ _ ids r (by rw [keepSt_nk]; exact h0) hi h
        refine aw_reg ?_
        unfold AAt
        rw [List.drop_zero]
        exact this
      · split at h
        · cases h
        · rename_i js _
          split at h
          · rename_i hb
            have:=runJ_ok (P:=P) (n:=n) (ops:=ops) (G:=fun r=>Q r .normal) hX (henv fuel (Nat.le_trans hf hF)) (nk0:=nk0) (ids0:=ids0) (fun st ρ ids r h0 hi h=>hk fuel hf .normal st ρ ids r h0 hi h) js [] [] [] _ _ ids r (by rw [keepSt_nk]; exact h0) hi h rfl
            exact aw_draw hmix hb this
          · cases h
    split at h
    · exact main st ρ ids h0 hi h
    · obtain ⟨st1,ρ1,h1,h5,h2⟩:=adopts_ok (P:=P) (nk0:=nk0) (ids0:=ids0) h
      exact h2 ids n _ _ h0 hi fun ids1 hi1=>main st1 ρ1 ids1 (Nat.le_trans h0 h5) hi1 h1
  | seq a b iha ihb =>
    intro F hF k Q hL hk fuel hf st ρ ids r h0 hi h
    simp only [sx] at h
    refine aw_seq ?_
    refine iha F hF (seqK (cutB nk0 H (keyOf b) (sx X env n nk0 H b)) k) (fun r=>aThen (AWp P n b (Q r)) (Q r)) hL.1 ?_ fuel hf st ρ ids r h0 hi h
    intro fuel hf e st ρ ids r h0 hi h
    cases e with
    | normal =>
      simp only [seqK] at h
      have hc:=hL.2.1
      unfold cutB at h
      cases hl:lk H.cuts (keyOf b) with
      | none =>
        rw [hl] at h
        exact ihb F hF k Q hL.2.2 hk fuel hf st ρ ids r h0 hi h
      | some L =>
        rw [hl] at h hc
        simp only at h hc
        obtain ⟨x,hx,hLk,hA⟩:=enter_ok (P:=P) (ids0:=ids0) h
        cases fuel with
        | zero=>rw [hc.1] at hx; cases hx
        | succ fuel =>
          rw [hc.2] at hx
          exact hA ids n b _ h0 hi fun ids' hi'=>ihb F hF k Q hL.2.2 hk fuel (by omega) (headSt L) (toRho L.Γ x) ids' r hLk hi' hx
    | _=>exact hk fuel hf _ st ρ ids r h0 hi h
  | cond c a b iha ihb =>
    intro F hF k Q hL hk fuel hf st ρ ids r h0 hi h
    simp only [sx] at h
    split at h
    · cases h
    · rename_i sv hx
      rcases ifB_ok h with ⟨hb,h⟩ | ⟨hb,h⟩
      · exact aw_cond true (by rw [opd_ok hx,boolOf_ok hb]) (fun _=>iha F hF k Q hL.1 hk fuel hf st ρ ids r h0 hi h) (fun e=>by cases e)
      · exact aw_cond false (by rw [opd_ok hx,boolOf_ok hb]) (fun e=>by cases e) (fun _=>ihb F hF k Q hL.2 hk fuel hf st ρ ids r h0 hi h)
  | block id a iha =>
    intro F hF k Q hL hk fuel hf st ρ ids r h0 hi h
    simp only [sx] at h
    refine aw_block ?_
    refine iha F hF (blkK id k) (fun r=>aBlock id (Q r)) hL ?_ fuel hf st ρ ids r h0 hi h
    intro fuel hf e st ρ ids r h0 hi h
    cases e with
    | exit j =>
      simp only [blkK] at h
      simp only [aBlock]
      cases hj:Nat.beq j id with
      | true=>rw [hj] at h; exact hk fuel hf _ st ρ ids r h0 hi h
      | false=>rw [hj] at h; exact hk fuel hf _ st ρ ids r h0 hi h
    | _=>exact hk fuel hf _ st ρ ids r h0 hi h
  | loop a iha =>
    intro F hF k Q hL hk fuel hf st ρ ids r h0 hi h
    simp only [sx] at h
    simp only [LoopsOk] at hL
    split at h
    · rename_i N hN
      rw [hN] at hL
      simp only at hL
      refine aw_loop N ?_
      have key:∀ N fuel,fuel≤F→∀ st ρ ids r,nk0≤st.nk→Ids.agree nk0 ids0 ids→unrl (sx X env n nk0 H a) k N fuel st ρ=some r→ARounds P n a (Q r) N (tauE st ρ ids) (stoE st.sto ρ ids):=by
        intro N
        induction N with
        | zero=>intro fuel _ st ρ ids r _ _ h; cases h
        | succ N ih =>
          intro fuel hf st ρ ids r h0 hi h
          refine iha F hF _ (fun r=>aThen (ARounds P n a (Q r) N) (Q r)) (hL _) ?_ fuel hf st ρ ids r h0 hi h
          intro fuel hf e st ρ ids r h0 hi h
          cases e with
          | normal=>exact ih fuel hf st ρ ids r h0 hi h
          | _=>exact hk fuel hf _ st ρ ids r h0 hi h
      exact key N fuel hf st ρ ids r h0 hi h
    · rename_i hN
      rw [hN] at hL
      simp only at hL
      split at h
      · rename_i L hl
        rw [hl] at hL
        simp only at hL
        obtain ⟨⟨hz,hs⟩,hLa⟩:=hL
        have key:∀ N fuel x ids r,fuel≤N→fuel≤F→nk0≤L.nk→Ids.agree nk0 ids0 ids→L.F fuel x=some r→ARounds P n a (Q r) N (tauE (headSt L) (toRho L.Γ x) ids) (stoE L.sto (toRho L.Γ x) ids):=by
          intro N
          induction N with
          | zero =>
            intro fuel x ids r h1 _ _ _ h
            obtain rfl:fuel=0:=by omega
            rw [hz] at h; cases h
          | succ N ih =>
            intro fuel x ids r h1 h2 h3 h4 h
            cases fuel with
            | zero=>rw [hz] at h; cases h
            | succ fuel =>
              rw [hs] at h
              refine iha fuel (by omega) (loopK nk0 L k) (fun r=>aThen (ARounds P n a (Q r) N) (Q r)) hLa ?_ fuel (Nat.le_refl _) (headSt L) (toRho L.Γ x) ids r h3 h4 h
              intro fuel' hf' e st ρ ids r h0 hi h
              cases e with
              | normal =>
                obtain ⟨x',hx',hLk,hA⟩:=enter_ok (P:=P) (ids0:=ids0) h
                show ARounds P n a (Q r) N _ _
                cases N with
                | zero =>
                  obtain rfl:fuel'=0:=by omega
                  rw [hz] at hx'; cases hx'
                | succ N=>exact hA ids n a _ h0 hi fun ids' hi'=>ih fuel' x' ids' r (by omega) (by omega) hLk hi' hx'
              | _=>exact hk fuel' (by omega) _ st ρ ids r h0 hi h
        obtain ⟨x,hx,hLk,hA⟩:=enter_ok (P:=P) (ids0:=ids0) h
        exact hA ids n (.loop a) _ h0 hi fun ids' hi'=>aw_loop fuel (key fuel fuel x ids' r (Nat.le_refl _) hf hLk hi' hx)
      · cases h
  | _=>intro F hF k Q _ hk fuel hf st ρ ids r _ _ h; cases h

/-! ### functions -/
def resx1 (T:TT) (st:St):ResultVar→Option SV
  | .tmp t=>lk st.live t
  | .cell a ty=>match lk st.live a with
    | some (.ref key off)=>match lk st.sto key with
      | some (.cells _ _ cs _)=>match T.lay ty with
        | some (true,n)=>if Nat.ble (off+n) cs.length then some (.agg ((cs.drop off).take n)) else none
        | some (false,_)=>cs[off]?
        | none=>none
      | _=>none
    | _=>none
def resxs (T:TT) (st:St):List ResultVar→Option (List SV)
  | []=>some []
  | r :: rs=>match resx1 T st r with
    | none=>none
    | some x=>match resxs T st rs with
      | none=>none
      | some xs=>some (x :: xs)
def tupOf:List SV→SV
  | [x]=>x
  | xs=>.tup xs

theorem resx1_ok {T:TT} (hT:TTok P T) {st:St} {ρ:Rho} {ids:Ids} {r:ResultVar} {x:SV} (h:resx1 T st r=some x):ResOk1 P (tauE st ρ ids) (stoE st.sto ρ ids) r (evSV ρ ids x):=by
  cases r with
  | tmp t=>exact res1_tmp (by simp only [resx1] at h; simp [tauE,h])
  | cell a ty =>
    simp only [resx1] at h
    split at h
    · rename_i key off ha
      split at h
      · rename_i e sz cs f hk
        obtain ⟨j,hj⟩:=stoE_get (ρ:=ρ) (ids:=ids) hk
        simp only [evOB] at hj
        refine res1_cell hT (off:=off) (by simp only [tauE,ha]; simp only [evSV]) hj ?_
        split at h
        · rename_i n hl
          split at h
          · rename_i hb
            cases h
            rw [hl]
            simp only [evSV]
            rw [evSVs_len,if_pos hb,evSVs_map,evSVs_map,List.map_take,List.map_drop]
          · cases h
        · rename_i n hl
          rw [hl]
          exact evSVs_get ρ ids h
        · cases h
      · cases h
    · cases h

theorem res_mapM {t:Tau} {s:Store}:∀ (rs:List ResultVar) (xs:List AV),(∀ (k:Nat) r,rs[k]?=some r→∃ x,xs[k]?=some x∧ResOk1 P t s r x)→xs.length=rs.length →
    ∀ w m i (a:Act),Rel w m i s→TR m i t a→∃ vs:List Value,(rs.mapM (resSem a.tmps)).run P w=.ok vs w∧VL m i xs vs
  | [],xs,_,hl,w,m,i,a,_,_=>by
    have:xs=[]:=List.length_eq_zero_iff.1 hl
    subst this
    exact ⟨[],rfl,rfl⟩
  | r :: rs,xs,h,hl,w,m,i,a,hr,ht=>by
    cases xs with
    | nil=>simp at hl
    | cons x xs =>
      obtain ⟨x',h1,h2⟩:=h 0 r rfl
      simp at h1
      subst h1
      obtain ⟨v,q1,q2⟩:=h2 w m i a hr ht
      obtain ⟨vs,q3,q4⟩:=res_mapM rs xs (fun k r hk=>by simpa using h (k+1) r (by simpa using hk)) (by simpa using hl) w m i a hr ht
      refine ⟨v :: vs,?_,v,vs,rfl,q2,q4⟩
      rw [List.mapM_cons]
      simp only [Sem.run_bind,q1,Result.andThen_ok,q3,Sem.run_pure]

theorem resxs_ok {T:TT} (hT:TTok P T) {fn:Func} {st:St} {ρ:Rho} {ids:Ids} {xs:List SV} (h:resxs T st fn.results.toList=some xs):ResOk P fn (tauE st ρ ids) (stoE st.sto ρ ids) (evSV ρ ids (tupOf xs)):=by
  intro w m i a hr ht
  have key:∀ (rs:List ResultVar) (xs:List SV),resxs T st rs=some xs→(evSVs ρ ids xs).length=rs.length∧∀ (k:Nat) r,rs[k]?=some r→∃ x,(evSVs ρ ids xs)[k]?=some x∧ResOk1 P (tauE st ρ ids) (stoE st.sto ρ ids) r x:=by
    intro rs
    induction rs with
    | nil=>intro xs h; cases h; exact ⟨by simp [evSVs],fun k r hk=>by simp at hk⟩
    | cons r rs ih =>
      intro xs h
      simp only [resxs] at h
      split at h
      · cases h
      · rename_i x hx
        split at h
        · cases h
        · rename_i xs' hs
          cases h
          obtain ⟨g1,g2⟩:=ih xs' hs
          refine ⟨by simp [evSVs,g1],fun k r' hk=>?_⟩
          cases k with
          | zero=>simp at hk; subst hk; exact ⟨_,by simp [evSVs],resx1_ok hT hx⟩
          | succ k =>
            simp at hk
            obtain ⟨y,hy,hy2⟩:=g2 k r' hk
            exact ⟨y,by simpa [evSVs] using hy,hy2⟩
  obtain ⟨k1,k2⟩:=key _ _ h
  obtain ⟨vs,q1,q2⟩:=res_mapM fn.results.toList (evSVs ρ ids xs) k2 k1 w m i a hr ht
  have hmap:(fn.results.mapM (resSem a.tmps)).run P w=.ok vs.toArray w:=by
    rw [Array.mapM_eq_mapM_toList]
    simp only [map_eq_pure_bind,Sem.run_bind,q1,Result.andThen_ok,Sem.run_pure]
  have hlen:vs.length=xs.length:=by rw [VL.length q2,evSVs_len]
  rw [results_eq]
  simp only [Sem.run_bind,hmap,Result.andThen_ok,Sem.run_pure]
  by_cases h1:xs.length=1
  · match xs,h1 with
    | [x],_ =>
      match vs,hlen with
      | [v],_ =>
        simp only [evSVs] at q2
        obtain ⟨v',vs',e1,e2,_⟩:=q2
        cases e1
        exact ⟨v,by simp,by simp only [tupOf]; exact e2⟩
  · refine ⟨.tuple vs.toArray,by rw [dif_neg (by simp [hlen,h1])],?_⟩
    have:tupOf xs=.tup xs:=by
      match xs,h1 with
      | [],_=>rfl
      | [_],h1=>exact absurd rfl h1
      | _ :: _ :: _,_=>rfl
    rw [this]
    simp only [evSV]
    exact ⟨vs,rfl,q2⟩

def bBody (P:Program) (fn:Func) (Q:AV→Store→Prop):APost
  | .normal,t,s | .ret,t,s=>∀ w m i (a:Act),Rel w m i s→TR m i t a→∃ v m' i' av s',(results fn a.tmps).run P w=.ok v w∧VR m' i' av v∧Rel w m' i' s'∧Step w m i s w m' i' s'∧Q av s'
  | _,_,_=>False

theorem acalls_enterG {f:FuncId} {fn:Func} {c:Code} {args:List AV} {s:Store} {t:Tau} {Q:AV→Store→Prop} (hf:P.funcs[f]?=some fn) (hb:fn.body=some c) (hn:Nat.ble args.length fn.ntmps=true)
    (ht:∀ k,t k=.any∨t k=argsTau args k) (h:AWp P fn.ntmps c (bBody P fn Q) t s):ACalls P f args s Q:=by
  intro w m i cargs h1 h2
  have hlen:=VL.length h2
  have hn':args.length≤fn.ntmps:=by simpa using hn
  refine calls_of_wp hf hb (wp_mono (h _ w m i h1 (TR.sub (t:=argsTau args) ?_ ht) ?_ rfl) ?_)
  · intro k
    simp only [argsTau]
    cases hk:args[k]? with
    | none=>exact trivial
    | some c =>
      obtain ⟨v,h3,h4⟩:=VL.get h2 k c hk
      have hlt:k<cargs.length:=(List.getElem?_eq_some_iff.1 h3).1
      have:(cargs.toArray++Array.replicate (fn.ntmps - cargs.toArray.size) undef).getD k undef=v:=by
        rw [Array.getD_eq_getD_getElem?,Array.getElem?_append_left (by simpa using hlt)]
        simp [h3]
      rw [Option.getD_some,this]; exact h4
  · simp; omega
  · intro e a' w' ⟨t',s',m',i',q,r2,r3,r4,r5,r6⟩
    cases e with
    | normal =>
      obtain ⟨v,m2,i2,av,s2,q1,q2,q3,q4,q5⟩:=q w' m' i' a' r5 r2
      exact ⟨r4,v,q1,v,av,s2,m2,i2,rfl,q5,q2,q3,r6.trans q4⟩
    | ret =>
      obtain ⟨v,m2,i2,av,s2,q1,q2,q3,q4,q5⟩:=q w' m' i' a' r5 r2
      exact ⟨r4,v,q1,v,av,s2,m2,i2,rfl,q5,q2,q3,r6.trans q4⟩
    | _=>exact q.elim

def retK (T:TT) (results:Array ResultVar) (g:Sig):Kont (Vals g.Δ):=fun _ e st ρ=>match e with
  | .normal | .ret=>match resxs T st results.toList with
    | none=>none
    | some xs=>match mt [g.res] [tupOf xs] g.sto' g.Δ.length (idK g.nk) st.sto with
      | none=>none
      | some m=>match sameK g.nk m.K with
        | true=>vals m.sto ρ m.V 0 g.Δ
        | false=>none
  | _=>none

def enumL:Nat→List SV→List (Nat×SV)
  | _,[]=>[]
  | k,x :: xs=>(k,x) :: enumL (k+1) xs
theorem enumL_lk {ρ:Rho} {ids:Ids}:∀ {l:List SV} {k j:Nat},(match lk (enumL k l) j with | some x=>evSV ρ ids x | none=>.any)=if j<k then .any else ((evSVs ρ ids l)[j - k]?).getD .any
  | [],k,j=>by simp [enumL,lk,evSVs]
  | x :: xs,k,j=>by
    simp only [enumL,lk,evSVs]
    by_cases e:j=k
    · subst e
      rw [nbeq_self,if_pos rfl,if_neg (Nat.lt_irrefl _)]
      simp
    · rw [nbeq_ne e]
      simp only [Bool.false_eq_true,if_false]
      rw [enumL_lk (l:=xs) (k:=k+1) (j:=j)]
      by_cases h1:j<k
      · rw [if_pos (by omega),if_pos h1]
      · rw [if_neg (by omega),if_neg h1]
        rw [show j - k=(j - (k+1))+1 from by omega,List.getElem?_cons_succ]

def inSt (g:Sig):St:={ live:=enumL 0 g.args,sto:=g.sto,nv:=g.Γ.length,nk:=g.nk+g.nr }
def fx (X:XT) (env:List Sig) (g:Sig) (fn:Func) (H:Hints (Vals g.Δ)) (c:Code) (fuel:Nat) (x:Vals g.Γ):Option (Vals g.Δ) :=
  sx X env fn.ntmps g.nk H c (retK X.T fn.results g) fuel (inSt g) (toRho g.Γ x)

theorem fx_ok {X:XT} (hX:XOk P X) (hmix:P.follows .mixedOrders=true) {env:List Sig} {fuel:Nat} (henv:∀ fuel',fuel'≤fuel→∀ g∈env,SigOk P g fuel') {g:Sig} {fn:Func} {H:Hints (Vals g.Δ)} {c:Code}
    (hf:P.funcs[g.fid]?=some fn) (hb:fn.body=some c) (hn:Nat.ble g.args.length fn.ntmps=true) (hL:LoopsOk X env fn.ntmps g.nk H c (retK X.T fn.results g)) (ids:Ids) (x:Vals g.Γ) (y:Vals g.Δ)
    (h:fx X env g fn H c fuel x=some y):ACalls P g.fid (evSVs (toRho g.Γ x) ids g.args) (stoE g.sto (toRho g.Γ x) ids)
      (fun av s=>∃ ids',(∀ k,k<g.nk→ids' k=ids k)∧av=evSV (toRho g.Δ y) ids' g.res∧s=stoE g.sto' (toRho g.Δ y) ids'):=by
  refine acalls_enterG (t:=tauE (inSt g) (toRho g.Γ x) ids) hf hb (by rw [evSVs_len]; exact hn) (fun k=>.inr ?_) ?_
  · have:=enumL_lk (ρ:=toRho g.Γ x) (ids:=ids) (l:=g.args) (k:=0) (j:=k)
    simp only [tauE,inSt,argsTau]
    rw [if_neg (Nat.not_lt_zero _),Nat.sub_zero] at this
    exact this
  · refine sx_ok hX hmix henv (nk0:=g.nk) (ids0:=ids) c fuel (Nat.le_refl _) (retK X.T fn.results g) (fun y=>bBody P fn fun av s=>∃ ids',(∀ k,k<g.nk→ids' k=ids k)∧av=evSV (toRho g.Δ y) ids' g.res∧s=stoE g.sto' (toRho g.Δ y) ids') hL ?_ fuel (Nat.le_refl _) (inSt g) (toRho g.Γ x) ids y (Nat.le_add_right _ _) (fun _ _=>rfl) h
    intro fuel' _ e st ρ ids' y _ hi h
    have main:(match resxs X.T st fn.results.toList with
      | none=>none
      | some xs=>match mt [g.res] [tupOf xs] g.sto' g.Δ.length (idK g.nk) st.sto with
        | none=>none
        | some m=>match sameK g.nk m.K with
          | true=>vals m.sto ρ m.V 0 g.Δ
          | false=>none)=some y→∀ w m i (a:Act),Rel w m i (stoE st.sto ρ ids')→TR m i (tauE st ρ ids') a→∃ v m' i' av s',(results fn a.tmps).run P w=.ok v w∧VR m' i' av v∧Rel w m' i' s'∧Step w m i (stoE st.sto ρ ids') w m' i' s' ∧
            ∃ ids'',(∀ k,k<g.nk→ids'' k=ids k)∧av=evSV (toRho g.Δ y) ids'' g.res∧s'=stoE g.sto' (toRho g.Δ y) ids'':=by
      intro h w mu i a hr ht
      split at h
      · cases h
      · rename_i xs hxs
        split at h
        · cases h
        · rename_i m hm
          split at h
          · rename_i hsame
            obtain ⟨hchk,hasg,⟨used,hsto⟩,ks,hfrz⟩:=mt_ok hm
            obtain ⟨v,hv1,hv2⟩:=resxs_ok hX.tt (ids:=ids') hxs w mu i a hr ht
            have sh:=Shift.frzL (t:=fun _=>.any) (ρ:=ρ) (ids:=ids') ks st.sto []
            simp only [List.nil_append] at sh
            rw [← hfrz] at sh
            obtain ⟨m1,i1,r1,r2,r3⟩:=sh w mu i a hr (fun _=>trivial)
            obtain ⟨q1,q2,q3,q4,q5⟩:=match_ok r1 h hasg hsto
            simp only [chks,Bool.and_true] at hchk
            exact ⟨v,m1,i1,_,_,hv1,q1 _ _ hchk v (VR.mono r3.mu r3.io _ _ hv2),q3.sub (List.sublist_append_left _ _),r3.trans (Step.same fun p hp=>q4 p (List.mem_append_left _ hp)),
              kIds m.K ids',(fun k hk=>by rw [kIds_lk (sameK_lk hsame hk)]; exact hi k hk),rfl,rfl⟩
          · cases h
    cases e <;> first | (cases h; done) | exact main h
end
end Go.Sx

/- The executor, part 11: what is asked of a function's text. -/
namespace Go.Sx
open Go Go.Am

section
variable {P:Program}

theorem sig_rec {X:XT} (hX:XOk P X) (hmix:P.follows .mixedOrders=true) {env:List Sig} {K:Nat} (henv:∀ k,k<K→∀ g∈env,SigOk P g k) {g:Sig} {fn:Func} {H:Hints (Vals g.Δ)} {c:Code}
    (hf:P.funcs[g.fid]?=some fn) (hb:fn.body=some c) (hname:(fn.name == "runtime.NumGoroutine")=false) (hn:Nat.ble g.args.length fn.ntmps=true)
    (hL:LoopsOk X env fn.ntmps g.nk H c (retK X.T fn.results g)) (h0:∀ x,g.f 0 x=none) (hs:∀ k x,g.f (k+1) x=fx X env g fn H c k x):SigOk P g K:=by
  refine ⟨⟨fn,hf,by rw [hb]; rfl,hname⟩,fun ids x y h=>?_⟩
  cases K with
  | zero=>rw [h0] at h; cases h
  | succ k =>
    rw [hs] at h
    exact fx_ok hX hmix (fun k' hk'=>henv k' (by omega)) hf hb hn hL ids x y h

theorem sig_fun {X:XT} (hX:XOk P X) (hmix:P.follows .mixedOrders=true) {env:List Sig} (henv:∀ k,∀ g∈env,SigOk P g k) {g:Sig} {fn:Func} {H:Hints (Vals g.Δ)} {c:Code}
    (hf:P.funcs[g.fid]?=some fn) (hb:fn.body=some c) (hname:(fn.name == "runtime.NumGoroutine")=false) (hn:Nat.ble g.args.length fn.ntmps=true)
    (hL:LoopsOk X env fn.ntmps g.nk H c (retK X.T fn.results g)) (hs:∀ k x,g.f k x=fx X env g fn H c k x) (K:Nat):SigOk P g K:=by
  refine ⟨⟨fn,hf,by rw [hb]; rfl,hname⟩,fun ids x y h=>?_⟩
  rw [hs] at h
  exact fx_ok hX hmix (fun k' _=>henv k') hf hb hn hL ids x y h

def AllOk (P:Program) (k:Nat) (env:List Sig):Prop:=∀ g∈env,SigOk P g k
theorem AllOk.nil {k:Nat}:AllOk P k []:=fun g hg=>by cases hg
theorem AllOk.cons {k:Nat} {g:Sig} {env:List Sig} (h:SigOk P g k) (t:AllOk P k env):AllOk P k (g :: env):=fun g' hg=>by
  rcases List.mem_cons.1 hg with rfl | hg
  · exact h
  · exact t g' hg

/-! ### the loops of a text, one by one -/
structure LP (R:Type) where
  cut:Bool
  key:Nat
  body:Code
  k:Kont R

variable {R:Type}
def loopsOf (X:XT) (env:List Sig) (n nk0:Nat) (H:Hints R):Code→Kont R→List (LP R)
  | .seq a b,k=>loopsOf X env n nk0 H a (seqK (cutB nk0 H (keyOf b) (sx X env n nk0 H b)) k)++(match lk H.cuts (keyOf b) with
    | some _=>[⟨true,keyOf b,b,k⟩]
    | none=>[])++loopsOf X env n nk0 H b k
  | .cond _ a b,k=>loopsOf X env n nk0 H a k++loopsOf X env n nk0 H b k
  | .block id a,k=>loopsOf X env n nk0 H a (blkK id k)
  | .loop a,k=>match lk H.unr (keyOf a) with
    | some _=>[]
    | none=>match lk H.loops (keyOf a) with
      | some L=>⟨false,keyOf a,a,loopK nk0 L k⟩ :: loopsOf X env n nk0 H a (loopK nk0 L k)
      | none=>[]
  | _,_=>[]

def flatL (H:Hints R):Code→Bool
  | .seq a b=>flatL H a && flatL H b
  | .cond _ a b=>flatL H a && flatL H b
  | .block _ a=>flatL H a
  | .loop a=>match lk H.unr (keyOf a) with
    | some _=>flatL.noL H a
    | none=>flatL H a
  | _=>true
where noL (H:Hints R):Code→Bool
  | .seq a b=>noL H a && noL H b && (match lk H.cuts (keyOf b) with
    | some _=>false
    | none=>true)
  | .cond _ a b=>noL H a && noL H b
  | .block _ a=>noL H a
  | .loop _=>false
  | _=>true

theorem noL_ok {X:XT} {env:List Sig} {n nk0:Nat} {H:Hints R}:∀ {c:Code} {k:Kont R},flatL.noL H c=true→LoopsOk X env n nk0 H c k:=by
  intro c
  induction c with
  | seq a b iha ihb =>
    intro k h
    simp only [flatL.noL,Bool.and_eq_true] at h
    refine ⟨iha h.1.1,?_,ihb h.1.2⟩
    cases hl:lk H.cuts (keyOf b) with
    | none=>trivial
    | some L=>rw [hl] at h; cases h.2
  | cond _ a b iha ihb=>intro k h; simp only [flatL.noL,Bool.and_eq_true] at h; exact ⟨iha h.1,ihb h.2⟩
  | block _ a ih=>intro k h; simp only [flatL.noL] at h; exact ih h
  | loop a _=>intro k h; simp [flatL.noL] at h
  | _=>intro k _; trivial

def LP.find (H:Hints R) (p:LP R):Option (LH R):=match p.cut with
  | true=>lk H.cuts p.key
  | false=>lk H.loops p.key
def LEq (X:XT) (env:List Sig) (n nk0:Nat) (H:Hints R) (p:LP R):Prop:=match p.find H with
  | some L=>(∀ x,L.F 0 x=none)∧∀ fuel x,L.F (fuel+1) x=sx X env n nk0 H p.body p.k fuel (headSt L) (toRho L.Γ x)
  | none=>True

theorem loops_ok {X:XT} {env:List Sig} {n nk0:Nat} {H:Hints R}:∀ {c:Code} {k:Kont R},flatL H c=true→(∀ p∈loopsOf X env n nk0 H c k,LEq X env n nk0 H p)→LoopsOk X env n nk0 H c k:=by
  intro c
  induction c with
  | seq a b iha ihb =>
    intro k hf h
    simp only [flatL,Bool.and_eq_true] at hf
    refine ⟨iha hf.1 fun p hp=>h p (List.mem_append_left _ (List.mem_append_left _ hp)),?_,ihb hf.2 fun p hp=>h p (List.mem_append_right _ hp)⟩
    simp only [loopsOf] at h
    cases hl:lk H.cuts (keyOf b) with
    | none=>trivial
    | some L =>
      rw [hl] at h
      have:=h ⟨true,keyOf b,b,k⟩ (List.mem_append_left _ (List.mem_append_right _ (by simp)))
      unfold LEq LP.find at this
      simp only [hl] at this
      exact this
  | cond _ a b iha ihb =>
    intro k hf h
    simp only [flatL,Bool.and_eq_true] at hf
    exact ⟨iha hf.1 fun p hp=>h p (List.mem_append_left _ hp),ihb hf.2 fun p hp=>h p (List.mem_append_right _ hp)⟩
  | block _ a ih=>intro k hf h; simp only [flatL] at hf; exact ih hf h
  | loop a ih =>
    intro k hf h
    simp only [flatL] at hf
    simp only [loopsOf] at h
    simp only [LoopsOk]
    split
    · rename_i N hN
      rw [hN] at hf
      exact fun k'=>noL_ok hf
    · rename_i hN
      rw [hN] at hf h
      simp only at hf h
      split
      · rename_i L hl
        rw [hl] at h
        simp only at h
        refine ⟨?_,ih hf fun p hp=>h p (List.mem_cons_of_mem _ hp)⟩
        have:=h _ List.mem_cons_self
        unfold LEq LP.find at this
        simp only [hl] at this
        exact this
      · trivial
  | _=>intro k _ _; trivial

def lrhs (X:XT) (env:List Sig) (n nk0:Nat) (H:Hints R) (c:Code) (k:Kont R) (i:Nat) (L:LH R) (fuel:Nat) (x:Vals L.Γ):Option R:=match (loopsOf X env n nk0 H c k)[i]? with
  | some p=>sx X env n nk0 H p.body p.k fuel (headSt L) (toRho L.Γ x)
  | none=>none
def lkey (X:XT) (env:List Sig) (n nk0:Nat) (H:Hints R) (c:Code) (k:Kont R) (i:Nat):Option (LH R):=match (loopsOf X env n nk0 H c k)[i]? with
  | some p=>p.find H
  | none=>none

def UpTo (X:XT) (env:List Sig) (n nk0:Nat) (H:Hints R) (c:Code) (k:Kont R) (m:Nat):Prop:=∀ i,i<m→∀ p,(loopsOf X env n nk0 H c k)[i]?=some p→LEq X env n nk0 H p
theorem UpTo.zero {X:XT} {env:List Sig} {n nk0:Nat} {H:Hints R} {c:Code} {k:Kont R}:UpTo X env n nk0 H c k 0:=fun i hi=>by omega
theorem UpTo.succ {X:XT} {env:List Sig} {n nk0:Nat} {H:Hints R} {c:Code} {k:Kont R} {m:Nat} (h:UpTo X env n nk0 H c k m) (L:LH R) (hk:lkey X env n nk0 H c k m=some L) (h0:∀ x,L.F 0 x=none)
    (hs:∀ fuel x,L.F (fuel+1) x=lrhs X env n nk0 H c k m L fuel x):UpTo X env n nk0 H c k (m+1):=by
  intro i hi p hp
  by_cases e:i=m
  · subst e
    unfold lkey at hk
    rw [hp] at hk
    simp only at hk
    unfold LEq
    rw [hk]
    refine ⟨h0,fun fuel x=>?_⟩
    rw [hs]
    unfold lrhs
    rw [hp]
  · exact h i (by omega) p hp
theorem UpTo.all {X:XT} {env:List Sig} {n nk0:Nat} {H:Hints R} {c:Code} {k:Kont R} {m:Nat} (h:UpTo X env n nk0 H c k m) (hf:flatL H c=true) (hl:Nat.ble (loopsOf X env n nk0 H c k).length m=true):LoopsOk X env n nk0 H c k :=
  loops_ok hf fun p hp=>by
    obtain ⟨i,hi⟩:=List.getElem?_of_mem hp
    have:=(List.getElem?_eq_some_iff.1 hi).1
    have:=Nat.le_of_ble_eq_true hl
    exact h i (by omega) p hi
end
end Go.Sx
namespace Go.Sx
open Go Go.Am
def bodyOf (fn:Func):Code:=match fn.body with
  | some c=>c
  | none=>.skip
end Go.Sx

/- The executor, part 12: functions whose contract is proved by hand, out of pure contracts. -/
namespace Go.Sx
open Go Go.Am

section
variable {P:Program}

theorem sigok_ss_i {fid:Nat} {f:Nat→List UInt8→List UInt8→Option Int} {K:Nat} (hfn:∃ fn,P.funcs[fid]?=some fn∧fn.body.isNone=false∧(fn.name == "runtime.NumGoroutine")=false)
    (h:∀ a b y,f K a b=some y→∀ w,Calls P fid #[.string ⟨a.toArray⟩,.string ⟨b.toArray⟩] w fun e w'=>e=.returned (.int .i64 y)∧w'=w) :
    SigOk P { fid:=fid,Γ:=[.str,.str],args:=[(.var 0),(.var 1)],sto:=[],nk:=0,nr:=0,Δ:=[(.int .i64)],res:=(.var 0),sto':=[],nk':=0,f:=fun k x=>f k x.1 x.2 } K:=by
  refine ⟨hfn,fun ids x y hy=>?_⟩
  intro w m i cargs hr hv
  obtain ⟨v1,l1,rfl,h1,v2,l2,rfl,h2,rfl⟩:=hv
  cases h1
  cases h2
  refine (h _ _ _ hy w).mono ?_
  rintro e w' ⟨rfl,rfl⟩
  exact ⟨_,_,_,m,i,rfl,⟨ids,fun _ _=>rfl,rfl,rfl⟩,rfl,hr,Step.refl _ _ _ _⟩
end
end Go.Sx

