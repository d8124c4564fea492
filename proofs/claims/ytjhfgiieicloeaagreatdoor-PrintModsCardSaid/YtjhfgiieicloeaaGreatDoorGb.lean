/- Joined texts: Am10, Am11, Am12, Am13, Am14, Am17, Am18. -/
import Derived.Test.YtjhfgiieicloeaaGreatDoorGa
import Derived.MapKept
/- The abstract machine, part 10: rows that grow, rows that are made. -/
namespace Go.Am
open Go
section
variable {P:Program} {T:TT} {n:Nat} {t:mA} {s:aN}

theorem jP {α:Type} {l:List α} {j:Nat} {x:α} (h:x∈l.eraseIdx j):x∈l:=(List.eraseIdx_sublist l j).subset h

theorem nX.rename {w m i} (h:nX w m i s) {j id:Nat} {o:Ob} (hj:s[j]?=some (id,o)) :
  ∃ k i',i k=none∧i' k=i id∧nX w m i' ((k,o) :: s.eraseIdx j)∧Step w m i s w m i' ((k,o) :: s.eraseIdx j):=by
 obtain ⟨N,hN⟩:=h.fin
 have hk:i N=none:=hN N (Nat.le_refl _)
 obtain ⟨x,hx⟩:=(h.obj _ (List.mem_of_getElem? hj)).id
 simp only at hx
 have hio:=Io.le_with (x:=x) hk
 have hself:i.with N x N=some x:=Io.with_self
 have hbN:blk (i.with N x) N=blk i id:=by simp [blk,hself,hx]
 have hjlt:j<s.length:=(List.getElem?_eq_some_iff.1 hj).1
 have hjv:s[j]=(id,o):=(List.getElem?_eq_some_iff.1 hj).2
 have hbold:∀ p∈s,blk (i.with N x) p.1=blk i p.1:=fun p hp=>by
  obtain ⟨y,hy⟩:=(h.obj p hp).id
  exact aKn hio hy
 have hold:∀ p∈s,p.1≠N:=fun p hp e=>by
  obtain ⟨y,hy⟩:=(h.obj p hp).id
  rw [e,hk] at hy; cases hy
 have hor:OR w m (i.with N x) N o:=by
  have h0:=h.obj _ (List.mem_of_getElem? hj)
  cases o with
  | row e sz cs fz =>
   rcases h0 with ⟨g1,g2⟩ | ⟨b,cap,vs,g1,g2,g3,g4,g5,g6,g7,g8,g9⟩
   ·simp only at g1
    rw [hx] at g1; cases g1
    exact .inl ⟨hself,g2⟩
   ·simp only at g1
    rw [hx] at g1; cases g1
    exact .inr ⟨b,cap,vs,hself,g2,g3,g4,g5,g6,g7,VL.mono (Mu.le_refl _) hio _ _ g8,g9⟩
  | map es =>
   obtain ⟨b,c,ces,clock,g1,g2,g3⟩:=h0
   simp only at g1
   rw [hx] at g1; cases g1
   exact ⟨b,c,ces,clock,hself,g2,EL.mono (Mu.le_refl _) hio _ _ g3⟩
  | iter s0 pos =>
   obtain ⟨b,c,g1,g2⟩:=h0
   simp only at g1
   rw [hx] at g1; cases g1
   exact ⟨b,c,hself,g2⟩
  | glob b cs =>
   obtain ⟨g1,g2⟩:=h0
   simp only at g1
   rw [hx] at g1; cases g1
   exact ⟨hself,VC.mono (Mu.le_refl _) hio _ _ _ g2⟩
 have hapj:∀ q∈s.eraseIdx j,Go.Am.apart i (id,o) q:=by
  intro q hq
  obtain ⟨k,hk⟩:=List.getElem?_of_mem hq
  have hapw:=List.pairwise_iff_getElem.1 h.apart
  rw [List.getElem?_eraseIdx] at hk
  split at hk
  ·rename_i hlt
   have hkl:=(List.getElem?_eq_some_iff.1 hk).1
   have hkv:=(List.getElem?_eq_some_iff.1 hk).2
   have:=hapw k j hkl hjlt hlt
   rw [hkv,hjv] at this
   exact apart.symm this
  ·have hkl:=(List.getElem?_eq_some_iff.1 hk).1
   have hkv:=(List.getElem?_eq_some_iff.1 hk).2
   have:=hapw j (k+1) hjlt hkl (by omega)
   rw [hkv,hjv] at this
   exact this
 refine ⟨N,i.with N x,hk,by rw [hself,hx],⟨h.mu,fun p hp=>?_,?_,Io.fin_with h.fin,h.tab⟩,⟨rfl,rfl,rfl,Nat.le_refl _,Mu.le_refl _,hio,fun _ _ _=>rfl,fun _ _ _ _=>rfl,fun p hp=>?_,fun b hb=>?_⟩⟩
 ·rcases List.mem_cons.1 hp with rfl | hp
  ·exact hor
  ·exact (h.obj p (jP hp)).mono_block (Mu.le_refl _) hio (fun _ _=>rfl) (fun _ _ _=>rfl)
 ·refine List.pairwise_cons.2 ⟨fun q hq=>⟨fun e=>hold q (jP hq) e.symm,fun b hb hbq=>?_⟩,?_⟩
  ·rw [hbN] at hb
   rw [hbold q (jP hq)] at hbq
   exact (hapj q hq).2 b hb hbq
  ·refine (h.apart.sublist (List.eraseIdx_sublist s j)).imp_of_mem ?_
   intro p q hp hq hpq
   exact ⟨hpq.1,fun b hb=>by rw [hbold p (jP hp)] at hb; rw [hbold q (jP hq)]; exact hpq.2 b hb⟩
 ·rcases List.mem_cons.1 hp with rfl | hp
  ·exact .inr hk
  ·exact .inl ⟨p,jP hp,rfl⟩
 ·obtain ⟨p,hp,e'⟩:=hb
  rcases List.mem_cons.1 hp with rfl | hp
  ·rw [hbN] at e'; exact .inl ⟨_,List.mem_of_getElem? hj,e'⟩
  ·rw [hbold p (jP hp)] at e'; exact .inl ⟨p,jP hp,e'⟩

theorem aDH (t ty e:TypeId) (i:TypeInfo) (ht:P.underlying t=some (.slice e)) (hi:P.info? e=some i) (base:Option Addr) (sLen sCap:Nat) (a:Option Addr) (c:Nat) (h:sLen≤sCap) (w:World) :
  (Builtin.append_ #[t,t] ty #[.slice base sLen sCap,.slice a 0 c]).run P w=.ok (.slice base sLen sCap) w:=by
 cases a <;> cases base <;> simp [Builtin.append_,run_underlying ht,sizeOf,typeInfo,hi,Builtin.lenOf,h,Builtin.firstCells,loadCells,loadCellsFrom,storeCells]

theorem VR.slc_elems {w m i} (hr:nX w m i s) {cs:List AV} {k sz:Nat} {f:Bool} {v:Value} (h:VR m i (.slc cs k f) v) (hl:cs.length=k * sz) :
  ∃ (a:Option Addr) (c:Nat) (vs:List Value),v=.slice a k c∧vs.length=k * sz∧VL m i cs vs∧pY vs∧(k=0∨∃ ad,a=some ad∧∀ j u,vs[j]?=some u→w.cell? (ad.add j)=some u):=by
 rcases h with ⟨rfl,rfl,q,rfl⟩ | ⟨b,o,cap,rfl,h2,h3,h4,h5⟩
 ·exact ⟨q,0,[],rfl,by simp,rfl,(fun x hx=>by cases hx),.inl rfl⟩
 ·obtain ⟨vs,q1,q2⟩:=h5.list
  refine ⟨some ⟨b,o,none⟩,cap,vs,rfl,by rw [← q1.eq_len,hl],q1,fun x hx=>?_,.inr ⟨_,rfl,fun j u hj=>by rw [add_lit]; exact (hr.mu _ _ _ (q2 j u hj)).1⟩⟩
  obtain ⟨j,hj⟩:=List.getElem?_of_mem hx
  exact (hr.mu _ _ _ (q2 j x hj)).2

structure bGU (P:Program) (T:TT) (ty e sz:Nat) (i0:TypeInfo) (z:Value):Prop where
 under:P.underlying ty=some (.slice e)
 info:P.info? e=some i0
 size:i0.size=sz
 zero:i0.zero=some z
 zsize:z.cells.size=sz

theorem aTj (h:eG P T) {ty e sz:Nat} {zs:List Value} (hk:lk T.kd ty=some (.slice e)) (hs:lk T.sz e=some sz) (hz:lk T.zero e=some zs) (hzl:Nat.beq zs.length sz=true) :
  ∃ i0 z,bGU P T ty e sz i0 z∧z.cells=zs.toArray:=by
 obtain ⟨i0,hi,hsz⟩:=h.size hs
 have:=h.zero' hz
 rw [hi] at this
 cases hz0:i0.zero with
 | none=>simp [hz0] at this
 | some z =>
  simp [hz0] at this
  have hzc:z.cells=zs.toArray:=by rw [← this]
  exact ⟨i0,z,⟨aAK h hk,hi,hsz,hz0,by rw [hzc]; simpa using Nat.eq_of_beq_eq_true hzl⟩,hzc⟩

theorem bytesOf (h:eG P T) {e by':Nat} {i0:TypeInfo} (hi:P.info? e=some i0) (hb:lk T.by' e=some by'):i0.bytes=by':=by
 have:=h.by'' hb
 rw [hi] at this; simpa using this

theorem aZF (h:eG P T) {o:Oper} {x y:Operand} {ty e sz j id k m fz by':Nat} {cs ds:List AV} {f:Bool} {zs:List Value}
  (ho:o.op=.call ⟨.builtin .append,#[x,y],#[ty,ty]⟩) (hk:lk T.kd ty=some (.slice e)) (hs:lk T.sz e=some sz) (hz:lk T.zero e=some zs) (hzl:Nat.beq zs.length sz=true) (hby:lk T.by' e=some by')
  (hx:ev t x=.row id k) (hy:ev t y=.slc ds m f) (hj:s[j]?=some (id,.row e sz cs fz)) (hcl:cs.length=k * sz) (hdl:ds.length=m * sz) (hb:(k+m) * by'≤140737488355328) (hb1:Nat.blt 0 by'=true) :
  sP P o t s (fun v z=>∃ id',v=.row id' (k+m)∧z=(id',.row e sz (cs++ds) fz) :: s.eraseIdx j):=by
 intro a w mu i hr hop K Q hK
 rw [ho] at hop
 have v1:=yX (x:=x) hop (by simp [Op.operands,Call.operands])
 have v2:=yX (x:=y) hop (by simp [Op.operands,Call.operands])
 rw [hx] at v1; rw [hy] at v2
 obtain ⟨i0,z,hE,hzc⟩:=aTj h hk hs hz hzl
 have hbytes:=bytesOf h hE.info hby
 have hbpos:1≤by':=by
  have h':0<by':=by simpa using hb1
  omega
 have hkm:k+m≤140737488355328:=Nat.le_trans (Nat.le_mul_of_pos_right _ hbpos) hb
 have hszi:=hE.size
 subst hszi
 obtain ⟨a2,c2,news,q1,q2,q3,q4,q5⟩:=VR.slc_elems hr v2 hdl
 have fin:∀ v w',(Builtin.append_ #[ty,ty] o.type #[a.eval x,a.eval y]).run P w=.ok v w' →
   (∃ id' m' i',VR m' i' (.row id' (k+m)) v∧nX w' m' i' ((id',.row e i0.size (cs++ds) fz) :: s.eraseIdx j)∧Step w mu i s w' m' i' ((id',.row e i0.size (cs++ds) fz) :: s.eraseIdx j))→o.wp P a w K Q:=by
  intro v w' hrun ⟨id',m',i',r1,r2,r3⟩
  unfold Oper.wp
  have:(execOp a.eval o).run P w=.ok (.value v) w':=by
   simp [execOp,ho,resolve,invoke,builtin,hrun]
  rw [this]
  exact hK _ _ (.row id' (k+m)) _ m' i' ⟨id',rfl,rfl⟩ r1 r2 r3
 by_cases hm:m=0
 ·subst hm
  have hds:ds=[]:=List.eq_nil_of_length_eq_zero (by simpa using hdl)
  subst hds
  obtain ⟨id',i',g1,g2,g3,g4⟩:=hr.rename hj
  rw [q1] at fin
  rcases v1 with ⟨u1,u2,u3⟩ | ⟨b,cap,u1,u2,u3⟩
  ·subst u2
   rw [u3] at fin
   exact fin _ _ (aDH ty o.type e i0 hE.under hE.info none 0 0 a2 c2 (Nat.le_refl _) w) ⟨id',mu,i',.inl ⟨by rw [g2]; exact u1,rfl,rfl⟩,by simpa using g3,by simpa using g4⟩
  ·rw [u3] at fin
   exact fin _ _ (aDH ty o.type e i0 hE.under hE.info _ k cap a2 c2 u2 w) ⟨id',mu,i',.inr ⟨b,cap,by rw [g2]; exact u1,u2,rfl⟩,by simpa using g3,by simpa using g4⟩
 ·rcases q5 with q5 | ⟨ad,rfl,q5⟩
  ·exact absurd q5 hm
  rw [q1] at fin
  have sub:nX w mu i (s.eraseIdx j):=hr.sub (List.eraseIdx_sublist s j)
  have toS:∀ {w' m' i' s'},Step w mu i (s.eraseIdx j) w' m' i' s'→Step w mu i s w' m' i' s':=by
   intro w' m' i' s' hst
   have hle:∀ b,owns i (s.eraseIdx j) b→owns i s b:=fun b ⟨p,hp,hb⟩=>⟨p,jP hp,hb⟩
   exact ⟨hst.os,hst.tape,hst.output,hst.size,hst.mu,hst.io,fun b hb hno=>hst.block b hb fun hh=>hno (hle b hh),fun b hb hno=>hst.mu' b hb fun hh=>hno (hle b hh),
    fun p hp=>(hst.ids p hp).imp (fun ⟨q,hq,e'⟩=>⟨q,jP hq,e'⟩) (fun h=>h),fun b hb=>(hst.blks b hb).imp (hle b) (fun h=>h)⟩
  -- a new row
  have grow:∀ (olds:List Value) (cap old:Nat) (rest:Array Value),VL mu i cs olds→pY olds→olds.length=k * i0.size→k+m≤cap→cap≤maxLen→rest.size=(cap - (k+m)) * i0.size→fz≤cs.length →
    (Builtin.append_ #[ty,ty] o.type #[a.eval x,.slice (some ad) m c2]).run P w=.ok (.slice (some ⟨w.heap.size,0,none⟩) (k+m) cap) (w.drew.alloc (.cells (olds.toArray++news.toArray++rest) e))→o.wp P a w K Q:=by
   intro olds cap old rest g1 g2 g3 g4 g5 g6 g8 g7
   have hl:(cs++ds).length=(olds++news).length:=by rw [List.length_append,List.length_append,hcl,hdl,g3,q2]
   have hta:(olds.toArray++news.toArray++rest).toList.take (cs++ds).length=olds++news:=by
    rw [hl]
    simp only [Array.toList_append]
    exact List.take_left
   have hsz:(olds.toArray++news.toArray++rest).size=cap * i0.size:=by
    simp only [Array.size_append,List.size_toArray,g3,q2,g6,← Nat.add_mul]
    congr 1; omega
   obtain ⟨id',m',i',r1,r2,r3,r4⟩:=sub.new e i0.size cap (olds.toArray++news.toArray++rest) (cs++ds) (w.drawn+1) fz hsz g5 (by rw [hl]; simp) (by simp; omega)
    (by rw [hta]; intro y hy; rcases List.mem_append.1 hy with hy | hy; exact g2 y hy; exact q4 y hy) (by rw [hta]; exact g1.append q3)
   exact fin _ _ g7 ⟨id',m',i',.inr ⟨_,cap,r2,g4,rfl⟩,r3,toS r4⟩
  rcases v1 with ⟨u1,u2,u3⟩ | ⟨b,cap,u1,u2,u3⟩
  ·subst u2
   have hcs:cs=[]:=List.eq_nil_of_length_eq_zero (by simpa using hcl)
   subst hcs
   have hfz:fz≤([]:List AV).length:=by
    rcases hr.obj _ (List.mem_of_getElem? hj) with ⟨_,_,h3⟩ | ⟨b',cap',vs',h1',_,_,_,_,h6',_⟩
    ·exact h3 ▸ Nat.zero_le _
    ·exact h6'
   have hrun:=run_append_nil (P:=P) w ty o.type e i0 z hE.under hE.info hE.zero ad m c2 news q2 q5 (by omega) (by omega) (by rw [hbytes]; simp only [Nat.zero_add] at hb; omega)
   refine grow [] (grownCap w m 0 e) 0 (Builtin.zeroCells z.cells (grownCap w m 0 e - m)) rfl (fun _ h=>by cases h) (by simp) (by simpa using grownCap_ge w m 0 e) (grownCap_le_maxLen w m 0 e (by unfold maxLen; omega)) (by rw [size_zeroCells,hE.zsize]; simp) hfz ?_
   rw [u3]
   simpa using hrun
  ·obtain ⟨vs,g1,g2,g3,g4,g5,g6,g7,g8,g9⟩:=hr.row hj u1
   by_cases hroom:k+m≤cap
   ·have hrun:=run_append_room (P:=P) w ty o.type e i0 hE.under hE.info b k cap vs g1 ad m c2 news q2 q5 q4 hroom (by rw [g2,q2,← Nat.add_mul]; exact Nat.mul_le_mul_right _ hroom)
    have hfit:k * i0.size+m * i0.size≤vs.size:=by rw [g2,← Nat.add_mul]; exact Nat.mul_le_mul_right _ hroom
    have ltake:(vs.toList.take (k * i0.size)).length=k * i0.size:=by rw [List.length_take,Array.length_toList]; omega
    have hlen:(vs.toList.take (k * i0.size)++news++vs.toList.drop (k * i0.size+news.length)).length=vs.size:=by
     simp only [List.length_append,List.length_drop,Array.length_toList,ltake,q2]; omega
    have htk:(vs.toList.take (k * i0.size)++news++vs.toList.drop (k * i0.size+news.length)).take (cs++ds).length=vs.toList.take cs.length++news:=by
     rw [hcl]
     have:(cs++ds).length=(vs.toList.take (k * i0.size)++news).length:=by rw [List.length_append,List.length_append,ltake,q2,hcl,hdl]
     rw [this]
     exact List.take_left
    obtain ⟨r1,r2⟩:=hr.change hj u1 (vs':=(vs.toList.take (k * i0.size)++news++vs.toList.drop (k * i0.size+news.length)).toArray) (cs':=cs++ds)
     (by rw [← g2]; simpa using hlen) (by rw [List.length_append,hcl,hdl]; simp only [List.size_toArray,hlen]; omega) (by rw [List.length_append]; omega)
     (by simp only [htk]; intro y hy; rcases List.mem_append.1 hy with hy | hy; exact g6 y hy; exact q4 y hy)
     (by simp only [htk]; exact g7.append q3) g1
     (by
      intro o' ho'
      have hlt:o' < k * i0.size:=by omega
      simp only [List.getElem?_toArray,List.append_assoc]
      rw [List.getElem?_append_left (by rw [ltake]; exact hlt),List.getElem?_take,if_pos hlt]
      simp)
    have hj':(s.set j (id,Ob.row e i0.size (cs++ds) fz))[j]?=some (id,Ob.row e i0.size (cs++ds) fz):=by
     rw [List.getElem?_set_self (List.getElem?_eq_some_iff.1 hj).1]
    obtain ⟨id',i',p1,p2,p3,p4⟩:=r1.rename hj'
    have her:(s.set j (id,Ob.row e i0.size (cs++ds) fz)).eraseIdx j=s.eraseIdx j:=by rw [List.eraseIdx_set_eq]
    rw [her] at p3 p4
    rw [u3] at fin
    exact fin _ _ hrun ⟨id',mu,i',.inr ⟨b,cap,by rw [p2]; exact u1,hroom,rfl⟩,p3,r2.trans p4⟩
   ·have holds:∀ (j':Nat) (u:Value),(vs.toList.take cs.length)[j']?=some u→w.cell? ((⟨b,0,none⟩:Addr).add j')=some u:=fun j' u hu=>by
     rw [add_lit,Nat.zero_add,cell_of_row w b j' vs e (0,0) g1]
     have:=wK hu
     simpa using this
    have hvl:vs.toList.length=vs.size:=by simp
    have hol:(vs.toList.take cs.length).length=k * i0.size:=by rw [List.length_take,hvl]; omega
    have hrun:=run_append_grow (P:=P) w ty o.type e i0 z hE.under hE.info hE.zero ⟨b,0,none⟩ k cap (vs.toList.take cs.length) hol holds ad m c2 news q2 q5 (Nat.lt_of_not_le hroom) (by omega) (by
     rw [hbytes]; exact growslice_fits (Nat.lt_of_not_le hroom) hb)
    refine grow (vs.toList.take cs.length) (grownCap w (k+m) cap e) cap (Builtin.zeroCells z.cells (grownCap w (k+m) cap e - (k+m))) g7 g6 hol (grownCap_ge w (k+m) cap e) (grownCap_le_maxLen w (k+m) cap e (by unfold maxLen; omega)) (by rw [size_zeroCells,hE.zsize]) g5 ?_
    rw [u3]
    exact hrun

theorem pY.zeros {z:Array Value} (hz:pY z.toList) (k:Nat):pY (Builtin.zeroCells z k).toList:=by
 intro v hv
 simp only [Builtin.zeroCells,Array.toList_map,Array.toList_range,List.mem_map,List.mem_range] at hv
 obtain ⟨j,hj,rfl⟩:=hv
 have hlt:j % z.size<z.size:=Nat.mod_lt _ (by
  rcases Nat.eq_zero_or_pos z.size with h0 | h0
  ·rw [h0] at hj; simp at hj
  ·exact h0)
 rw [getElem!_pos z (j % z.size) hlt]
 exact hz _ (by simp)

theorem aTo (h:eG P T) {o:Oper} {x y:Operand} {ty e sz k m by':Nat} {cs ds:List AV} {f:Bool} {zs:List Value}
  (ho:o.op=.call ⟨.builtin .append,#[x,y],#[ty,ty]⟩) (hk:lk T.kd ty=some (.slice e)) (hs:lk T.sz e=some sz) (hz:lk T.zero e=some zs) (hzl:(Nat.beq zs.length sz && zs.all Value.oneCell')=true) (hby:lk T.by' e=some by')
  (hx:ev t x=.slc cs k true) (hy:ev t y=.slc ds m f) (hcl:cs.length=k * sz) (hdl:ds.length=m * sz) (hb:(k+m) * by'≤140737488355328) (hb1:Nat.blt 0 by'=true) :
  sP P o t s (fun v z=>v=.slc (cs++ds) (k+m) false∧z=s):=by
 refine aSD fun a w mu i hr hop=>?_
 rw [ho] at hop
 have v1:=yX (x:=x) hop (by simp [Op.operands,Call.operands])
 have v2:=yX (x:=y) hop (by simp [Op.operands,Call.operands])
 rw [hx] at v1; rw [hy] at v2
 simp only [Bool.and_eq_true] at hzl
 obtain ⟨i0,z,hE,hzc⟩:=aTj h hk hs hz hzl.1
 have hbytes:=bytesOf h hE.info hby
 have hbpos:1≤by':=by
  have h':0<by':=by simpa using hb1
  omega
 have hkm:k+m≤140737488355328:=Nat.le_trans (Nat.le_mul_of_pos_right _ hbpos) hb
 have hszi:=hE.size
 subst hszi
 have hzo:pY z.cells.toList:=by rw [hzc]; exact fun v hv=>List.all_eq_true.1 hzl.2 v (by simpa using hv)
 obtain ⟨a1,c1,olds,p1,p2,p3,p4,p5⟩:=VR.slc_elems hr v1 hcl
 obtain ⟨a2,c2,news,q1,q2,q3,q4,q5⟩:=VR.slc_elems hr v2 hdl
 have hc1:c1=k:=by
  rcases v1 with ⟨u1,u2,q,u3⟩ | ⟨b,o',cap,u1,u2,u3,u4,_⟩
  ·rw [p1] at u3; cases u3; exact u1.symm ▸ rfl
  ·rw [p1] at u1; cases u1; exact u4 rfl
 subst hc1
 have fin:∀ v w',(Builtin.append_ #[ty,ty] o.type #[a.eval x,a.eval y]).run P w=.ok v w'→(execOp a.eval o).run P w=.ok (.value v) w':=by
  intro v w' hrun
  simp [execOp,ho,resolve,invoke,builtin,hrun]
 by_cases hm:m=0
 ·subst hm
  have hds:ds=[]:=List.eq_nil_of_length_eq_zero (by simpa using hdl)
  subst hds
  refine ⟨a.eval x,w,mu,i,fin _ _ (by rw [p1,q1]; exact aDH ty o.type e i0 hE.under hE.info a1 c1 c1 a2 c2 (Nat.le_refl _) w),?_,hr,Step.refl _ _ _ _⟩
  simp only [List.append_nil,Nat.add_zero]
  exact jS.slc_full _ _ _ _ _ _ v1
 ·rcases q5 with q5 | ⟨ad,rfl,q5⟩
  ·exact absurd q5 hm
  have done:∀ (cap:Nat) (rest:Array Value),c1+m≤cap→cap≤maxLen→pY rest.toList →
    (Builtin.append_ #[ty,ty] o.type #[a.eval x,a.eval y]).run P w=.ok (.slice (some ⟨w.heap.size,0,none⟩) (c1+m) cap) (w.drew.alloc (.cells (olds.toArray++news.toArray++rest) e)) →
    ∃ v w' m' i',(execOp a.eval o).run P w=.ok (.value v) w'∧VR m' i' (.slc (cs++ds) (c1+m) false) v∧nX w' m' i' s∧Step w mu i s w' m' i' s:=by
   intro cap rest g1 g2 g3 hrun
   have hone:pY (olds++news++rest.toList):=by
    intro v hv
    rcases List.mem_append.1 hv with hv | hv
    ·rcases List.mem_append.1 hv with hv | hv
     ·exact p4 v hv
     ·exact q4 v hv
    ·exact g3 v hv
   obtain ⟨r1,r2⟩:=hr.make e (olds++news++rest.toList) (w.drawn+1) hone
   have harr:(olds++news++rest.toList).toArray=olds.toArray++news.toArray++rest:=by apply Array.toList_inj.1; simp
   rw [harr] at r1 r2
   refine ⟨_,_,_,i,fin _ _ hrun,.inr ⟨_,0,cap,rfl,g1,g2,fun h=>(by cases h),?_⟩,r1,r2⟩
   refine VC.of_list (VL.mono (Mu.le_more hr _) (Io.le_refl _) _ _ (p3.append q3)) fun k v hk=>?_
   unfold Mu.more
   rw [if_pos rfl,Nat.zero_add,List.getElem?_append_left (List.getElem?_eq_some_iff.1 hk).1]
   exact hk
  rcases p5 with p5 | ⟨ad1,rfl,p5⟩
  ·subst p5
   have hcs:cs=[]:=List.eq_nil_of_length_eq_zero (by simpa using hcl)
   subst hcs
   have hol:olds=[]:=List.eq_nil_of_length_eq_zero (by simpa using p2)
   subst hol
   cases a1 with
   | none =>
    have hrun:=run_append_nil (P:=P) w ty o.type e i0 z hE.under hE.info hE.zero ad m c2 news q2 q5 (by omega) (by omega) (by rw [hbytes]; simp only [Nat.zero_add] at hb; omega)
    refine done (grownCap w m 0 e) (Builtin.zeroCells z.cells (grownCap w m 0 e - m)) (by simpa using grownCap_ge w m 0 e) (grownCap_le_maxLen w m 0 e (by unfold maxLen; omega)) (pY.zeros hzo _) ?_
    rw [p1,q1]
    simpa using hrun
   | some ad1 =>
    have hrun:=run_append_grow (P:=P) w ty o.type e i0 z hE.under hE.info hE.zero ad1 0 0 [] (by simp) (by simp) ad m c2 news q2 q5 (by omega) (by omega) (by rw [hbytes]; exact growslice_fits (by omega) hb)
    refine done (grownCap w (0+m) 0 e) (Builtin.zeroCells z.cells (grownCap w (0+m) 0 e - (0+m))) (grownCap_ge w (0+m) 0 e) (grownCap_le_maxLen w (0+m) 0 e (by unfold maxLen; omega)) (pY.zeros hzo _) ?_
    rw [p1,q1]
    exact hrun
  ·have hrun:=run_append_grow (P:=P) w ty o.type e i0 z hE.under hE.info hE.zero ad1 c1 c1 olds p2 p5 ad m c2 news q2 q5 (by omega) (by omega) (by rw [hbytes]; exact growslice_fits (by omega) hb)
   refine done (grownCap w (c1+m) c1 e) (Builtin.zeroCells z.cells (grownCap w (c1+m) c1 e - (c1+m))) (grownCap_ge w (c1+m) c1 e) (grownCap_le_maxLen w (c1+m) c1 e (by unfold maxLen; omega)) (pY.zeros hzo _) ?_
   rw [p1,q1]
   exact hrun

theorem aWC (h:eG P T) {o:Oper} {ty e sz id k:Nat} {x y:Operand} {kd:IntKind} {j:Int} (ho:o.op=.indexAddr ty x y) (hk:lk T.kd ty=some (.slice e)) (hsz:lk T.sz e=some sz)
  (hx:ev t x=.row id k) (hy:ev t y=.lit (.int kd j)) (h0:0≤j) (h1:j<k):sP P o t s (fun v z=>v=.ref id (j.toNat * sz)∧z=s):=by
 refine fM fun a w m i hr hop=>?_
 rw [ho] at hop
 have v1:=yX (x:=x) hop (by simp [Op.operands])
 have v2:=yX (x:=y) hop (by simp [Op.operands])
 rw [hx] at v1; rw [hy] at v2
 have v2':a.eval y=.int kd j:=v2
 obtain ⟨i0,hi,hs⟩:=h.size hsz
 rcases v1 with ⟨_,hn,_⟩ | ⟨b,cap,e1,e2,e3⟩
 ·omega
 ·refine ⟨.pointer (some ⟨b,0+j.toNat * sz,none⟩),?_,b,cap,e1,by rw [Nat.zero_add]⟩
  simp [execOp,ho,Instr.indexAt,v2',asIntOf,run_underlying (aAK h hk),e3,h0,h1,sizeOf,typeInfo,hi,hs,add_lit]

theorem aVC (h:eG P T) {o:Oper} {ty e sz by':Nat} {x y:Operand} {zs:List Value} {k1 k2:IntKind} {l:Int}
  (ho:o.op=.makeSlice ty x y) (hk:lk T.kd ty=some (.slice e)) (hs:lk T.sz e=some sz) (hz:lk T.zero e=some zs) (hzl:(Nat.beq zs.length sz && zs.all Value.oneCell')=true) (hby:lk T.by' e=some by')
  (hx:ev t x=.lit (.int k1 l)) (hy:ev t y=.lit (.int k2 l)) (h0:0≤l) (hb:l.toNat * by'≤140737488355328) (hb1:Nat.blt 0 by'=true) :
  sP P o t s (fun v z=>∃ id,v=.row id l.toNat∧z=(id,.row e sz ((List.range (l.toNat * sz)).map fun j=>(zs.map AV.lit).getD (j % sz) .any) 0) :: s):=by
 intro a w mu i hr hop K Q hK
 rw [ho] at hop
 have v1:=yX (x:=x) hop (by simp [Op.operands])
 have v2:=yX (x:=y) hop (by simp [Op.operands])
 rw [hx] at v1; rw [hy] at v2
 have v1':a.eval x=.int k1 l:=v1
 have v2':a.eval y=.int k2 l:=v2
 simp only [Bool.and_eq_true] at hzl
 obtain ⟨i0,z,hE,hzc⟩:=aTj h hk hs hz hzl.1
 have hbytes:=bytesOf h hE.info hby
 have hbpos:1≤by':=by
  have h':0<by':=by simpa using hb1
  omega
 have hkm:l.toNat≤140737488355328:=Nat.le_trans (Nat.le_mul_of_pos_right _ hbpos) hb
 have hszi:=hE.size
 subst hszi
 have hzlen:zs.length=i0.size:=Nat.eq_of_beq_eq_true hzl.1
 have hone:pY zs:=fun v hv=>List.all_eq_true.1 hzl.2 v hv
 have hmul:(i0.bytes:Int) * l≤281474976710656:=by
  have h2:by' * l.toNat≤140737488355328:=by rw [Nat.mul_comm]; exact hb
  have:((by' * l.toNat:Nat):Int)≤140737488355328:=by omega
  rw [Int.natCast_mul,Int.toNat_of_nonneg h0] at this
  rw [hbytes]; omega
 have hrun:=run_make (P:=P) w ty e i0 z hE.under hE.info hE.zero k1 k2 l l h0 (Int.le_refl _) hmul (by omega)
 have hmade:madeCells z.cells (l.toNat * i0.size)=((Array.range (l.toNat * i0.size)).map fun j=>zs.toArray[j % zs.toArray.size]!):=by rw [hzc]; rfl
 have hlen:((List.range (l.toNat * i0.size)).map fun j=>(zs.map AV.lit).getD (j % i0.size) .any).length=l.toNat * i0.size:=by simp
 have htake:(madeCells z.cells (l.toNat * i0.size)).toList.take ((List.range (l.toNat * i0.size)).map fun j=>(zs.map AV.lit).getD (j % i0.size) .any).length=((Array.range (l.toNat * i0.size)).map fun j=>zs.toArray[j % zs.toArray.size]!).toList:=by
  rw [hmade,hlen,List.take_of_length_le (by simp)]
 obtain ⟨id,m',i',g1,g2,g3,g4⟩:=hr.new e i0.size l.toNat (madeCells z.cells (l.toNat * i0.size)) ((List.range (l.toNat * i0.size)).map fun j=>(zs.map AV.lit).getD (j % i0.size) .any) w.drawn 0 (size_madeCells _ _) (by unfold maxLen; omega)
  (by rw [hlen,size_madeCells]; exact Nat.le_refl _) (Nat.zero_le _) (by rw [htake]; exact pY.tile hone hzlen) (by rw [htake]; exact VL.tile l.toNat i0.size hzlen)
 unfold Oper.wp
 have:(execOp a.eval o).run P w=.ok (.value (.slice (some ⟨w.heap.size,0,none⟩) l.toNat l.toNat)) (w.alloc (.cells (madeCells z.cells (l.toNat * i0.size)) e)):=by
  simp [execOp,ho,v1',v2',hrun]
 rw [this]
 exact hK _ _ (.row id l.toNat) _ m' i' ⟨id,rfl,rfl⟩ (.inr ⟨_,_,g2,Nat.le_refl _,rfl⟩) g3 g4
end
end Go.Am

/- The abstract machine, part 11: regions that draw their order. What only looks may be settled ahead, whenever it is carried out; what turns the store comes in one order. -/
namespace Go.Am
open Go

def rQ (k:Nat):List Nat→Bool
 | []=>false
 | x :: l=>if Nat.beq k x then true else rQ k l
theorem lL {k:Nat}:∀ {l:List Nat},rQ k l=true↔k∈l
 | []=>by simp [rQ]
 | x :: l=>by
  unfold rQ
  by_cases e:k=x
  ·subst e; simp
  ·rw [fN e]; simp [lL (l:=l),e]

def aGA (ops:Array Oper) (k:Nat):Option Nat:=(ops[k]?).bind (·.dst)
def mI (ops:Array Oper) (k:Nat):List Nat:=match ops[k]? with
 | some o=>(o.after.toList.filter (Region.binds .any)).map (·.on)
 | none=>[]
def aGB (ops:Array Oper) (k:Nat):List Nat:=match ops[k]? with
 | some o=>o.looksAt ops
 | none=>[]

def oeq (d:Nat):Option Nat→Bool
 | some e=>Nat.beq d e
 | none=>false

def aXy (n:Nat) (p:Nat→Bool):Bool:=(List.range n).all p

def bBZ (ops:Array Oper) (i:Nat):Bool :=
 match aGA ops i with
 | none=>true
 | some d=>!(rQ d (aGB ops i)) && aXy ops.size fun k=>Nat.beq k i || (!(oeq d (aGA ops k)) && (!(rQ d (aGB ops k)) || rQ i (mI ops k)))

def ahead (ops:Array Oper) (R:List Nat) (i:Nat):Bool :=
 Nat.blt i ops.size && !(rQ i R) && (mI ops i).all fun k=>rQ k R

def aSE (ops:Array Oper) (R:List Nat) (i:Nat):Bool:=ahead ops R i && bBZ ops i

def aUc (ops:Array Oper) (R:List Nat) (i:Nat):Bool :=
 match aGA ops i with
  | none=>true
  | some d=>aXy ops.size fun k=>Nat.beq k i || !(rQ k R) || !(rQ d (aGB ops k) || oeq d (aGA ops k)) || rQ k (mI ops i)

def aSA (ops:Array Oper) (R:List Nat) (i:Nat):Bool :=
 ahead ops R i &&
 (aXy ops.size fun k=>rQ k R || Nat.beq k i || (mI ops k).any fun e=>!(rQ e R)) &&
 aUc ops R i

def bF7 (ops:Array Oper) (R:List Nat) (i j:Nat):Bool :=
 (ahead ops R i && ahead ops R j) &&
 (aXy ops.size fun k=>rQ k R || Nat.beq k i || Nat.beq k j || (mI ops k).any fun e=>!(rQ e R)) &&
 (aUc ops R i && aUc ops R j)

def aXW (ops:Array Oper):Bool:=aXy ops.size fun k=>(mI ops k).all fun e=>Nat.blt e k

section
variable {P:Program} {n:Nat}

def aKY (P:Program) (ops:Array Oper) (o:Oper) (t:mA) (av:AV) (rd:aN):Prop :=
 (gd ops t o=some false∧av=.lit undef)∨(gd ops t o=some true∧∀ s,(∀ p∈rd,p∈s)→sP P o t s (fun x y=>x=av∧y=s))

inductive J (P:Program) (n:Nat) (ops:Array Oper) (Q:mA→aN→Prop):List Nat→List (Nat×aN)→mA→aN→Prop
 | done {R locks t s} (hR:aXy ops.size (fun k=>rQ k R)=true) (h:Q t s):J P n ops Q R locks t s
 | light {R locks t s} (i:Nat) (o:Oper) (av:AV) (rd:aN) (ho:ops[i]?=some o) (hk:aSE ops R i=true) (hd:inB o.dst n=true) (hl:aKY P ops o t av rd) (hrd:∀ p∈rd,p∈s)
   (h:J P n ops Q (i :: R) ((i,rd) :: locks) (t.put o.dst av) s):J P n ops Q R locks t s
 | heavy {R locks t s} (i:Nat) (o:Oper) (Rr:AV→aN→Prop) (ho:ops[i]?=some o) (hk:aSA ops R i=true) (hd:inB o.dst n=true) (hg:gd ops t o=some true) (hop:sP P o t s Rr)
   (hlk:∀ av s',Rr av s'→∀ l∈locks,rQ l.1 (mI ops i)=true∨∀ p∈l.2,p∈s')
   (h:∀ av s',Rr av s'→J P n ops Q (i :: R) locks (t.put o.dst av) s'):J P n ops Q R locks t s
 | two {R locks t s} (i:Nat) (o:Oper) (Rr:AV→aN→Prop) (j:Nat) (o2:Oper) (Rr2:AV→aN→Prop) (ho:ops[i]?=some o) (ho2:ops[j]?=some o2) (hk:bF7 ops R i j=true)
   (hd:inB o.dst n=true) (hg:gd ops t o=some true) (hop:sP P o t s Rr)
   (hlk:∀ av s',Rr av s'→∀ l∈locks,rQ l.1 (mI ops i)=true∨∀ p∈l.2,p∈s')
   (h:∀ av s',Rr av s'→J P n ops Q (i :: R) locks (t.put o.dst av) s')
   (hd2:inB o2.dst n=true) (hg2:gd ops t o2=some true) (hop2:sP P o2 t s Rr2)
   (hlk2:∀ av s',Rr2 av s'→∀ l∈locks,rQ l.1 (mI ops j)=true∨∀ p∈l.2,p∈s')
   (h2:∀ av s',Rr2 av s'→J P n ops Q (j :: R) locks (t.put o2.dst av) s'):J P n ops Q R locks t s
 | perm {R locks t s s'} (hp:s.Perm s') (h:J P n ops Q R locks t s'):J P n ops Q R locks t s
 | reR {R R' locks t s} (hm:∀ k,k∈R↔k∈R') (h:J P n ops Q R' locks t s):J P n ops Q R locks t s

theorem aEs {k:Nat} {p:Nat→Bool} (h:aXy k p=true) {j:Nat} (hj:j<k):p j=true:=by
 unfold aXy at h
 exact List.all_eq_true.1 h j (List.mem_range.2 hj)

structure Good (P:Program) (n:Nat) (ops:Array Oper) (w0:World) (m0:Mu) (i0:Io) (s0:aN) (R:List Nat) (locks:List (Nat×aN)) (t:mA) (s:aN) (listed:Array Bool) (a:Act) (w:World) (m:Mu) (i:Io) (fuel:Nat):Prop where
 rel:nX w m i s
 size:listed.size=ops.size
 exec:∀ k,listed.getD k false=true→k∈R
 tr:∀ x,(∃ k∈R,listed.getD k false=false∧aGA ops k=some x)∨VR m i (t x) (a.tmps.getD x undef)
 pend:∀ k∈R,listed.getD k false=false→∃ o av rd,ops[k]?=some o∧aKY P ops o t av rd∧(∀ d,o.dst=some d→t d=av)∧(k,rd)∈locks∧(∀ p∈rd,p∈s)∧bBZ ops k=true∧inB o.dst n=true∧∀ e∈mI ops k,e∈R
 count:((List.range ops.size).filter fun k=>!listed.getD k false).length≤fuel
 asz:a.tmps.size=n
 adef:a.defers=[]
 step:Step w0 m0 i0 s0 w m i s

theorem aL0 {ops:Array Oper} {i d:Nat} (h:bBZ ops i=true) (hd:aGA ops i=some d) {k:Nat} (hk:k<ops.size) (hne:k≠i):aGA ops k≠some d∧(d∈aGB ops k→i∈mI ops k):=by
 unfold bBZ at h
 rw [hd] at h
 simp only [Bool.and_eq_true] at h
 have:=aEs h.2 hk
 simp only [fN hne,Bool.false_or,Bool.and_eq_true,Bool.or_eq_true,Bool.not_eq_true'] at this
 refine ⟨fun e=>?_,fun hr=>?_⟩
 ·rw [e] at this; simp [oeq] at this
 ·rcases this.2 with h1 | h1
  ·rw [lL.2 hr] at h1; cases h1
  ·exact lL.1 h1

theorem aWs {ops:Array Oper} {i d:Nat} (h:bBZ ops i=true) (hd:aGA ops i=some d):d∉aGB ops i:=by
 unfold bBZ at h
 rw [hd] at h
 simp only [Bool.and_eq_true,Bool.not_eq_true'] at h
 intro hm
 rw [lL.2 hm] at h
 cases h.1

theorem aCj {ops:Array Oper} {listed:Array Bool} {j:Nat} (h:j∈Region.ready .any ops listed) (hsz:listed.size=ops.size) :
  j<ops.size∧listed.getD j false=false∧∀ e∈mI ops j,listed.getD e false=true:=by
 obtain ⟨h1,o,ho,h2⟩:=mem_ready.1 h
 have hj:j<ops.size:=(Array.getElem?_eq_some_iff.1 ho).1
 refine ⟨hj,?_,?_⟩
 ·have hlt:j<listed.size:=by omega
  rw [Array.getD_eq_getD_getElem?,Array.getElem?_eq_getElem hlt] at h1 ⊢
  simpa using h1
 ·intro e he
  simp only [mI,ho,List.mem_map,List.mem_filter] at he
  obtain ⟨x,⟨hx,hb⟩,rfl⟩:=he
  exact h2 x (by simpa using hx) hb

theorem bAy {ops:Array Oper} {listed:Array Bool} (hb:aXW ops=true) (hsz:listed.size=ops.size) (h:Region.ready .any ops listed=[]):∀ k,k<ops.size→listed.getD k false=true:=by
 intro k
 induction k using Nat.strongRecOn with
 | _ k ih =>
  intro hk
  cases hl:listed.getD k false with
  | true=>rfl
  | false =>
   exfalso
   have hmem:k∈Region.ready .any ops listed:=by
    refine mem_ready.2 ⟨?_,ops[k],Array.getElem?_eq_getElem hk,fun e he hbd=>?_⟩
    ·have hlt:k<listed.size:=by omega
     rw [Array.getD_eq_getD_getElem?,Array.getElem?_eq_getElem hlt] at hl ⊢
     simpa using hl
    ·have hp:e.on∈mI ops k:=by
      simp only [mI,Array.getElem?_eq_getElem hk,List.mem_map,List.mem_filter]
      exact ⟨e,⟨by simpa using he,hbd⟩,rfl⟩
     have hlt:=List.all_eq_true.1 (aEs hb hk) _ hp
     have hlt':e.on<k:=by simpa using hlt
     exact ih e.on hlt' (by omega)
   rw [h] at hmem
   cases hmem

theorem aVX {k0:Nat} {listed:Array Bool} {N:Nat} (hk:k0<N) (hsz:listed.size=N) (hl:listed.getD k0 false=false) :
  ((List.range N).filter fun k=>!(listed.setIfInBounds k0 true).getD k false).length+1≤((List.range N).filter fun k=>!listed.getD k false).length:=by
 have hget:∀ k,(listed.setIfInBounds k0 true).getD k false=if k=k0 then true else listed.getD k false:=by
  intro k
  by_cases e:k=k0
  ·subst e
   rw [if_pos rfl,Array.getD_eq_getD_getElem?,Array.getElem?_setIfInBounds_self_of_lt (by omega)]
   rfl
  ·rw [if_neg e]; exact getD_set_ne false (Ne.symm e)
 simp only [hget]
 rw [← List.countP_eq_length_filter,← List.countP_eq_length_filter]
 have gen:∀ (l:List Nat),l.Nodup→k0∈l→(l.countP fun k=>!(if k=k0 then true else listed.getD k false))+1≤l.countP fun k=>!listed.getD k false:=by
  intro l
  induction l with
  | nil=>intro _ h; cases h
  | cons x l ih =>
   intro hnd hm
   rw [List.nodup_cons] at hnd
   by_cases e:x=k0
   ·subst e
    have hsame:(l.countP fun k=>!(if k=x then true else listed.getD k false))=l.countP fun k=>!listed.getD k false:=by
     apply List.countP_congr
     intro y hy
     have:y≠x:=fun e=>hnd.1 (e ▸ hy)
     simp [this]
    simp only [List.countP_cons,hsame,hl]
    simp
   ·have hm':k0∈l:=by
     rcases List.mem_cons.1 hm with h | h
     ·exact absurd h.symm e
     ·exact h
    have:=ih hnd.2 hm'
    simp only [List.countP_cons,if_neg e]
    omega
 exact gen _ List.nodup_range (List.mem_range.2 hk)

theorem aN0 {ops:Array Oper} {o:Oper} {b:Bool} {t:mA} (hg:gd ops t o=some b) {m:Mu} {i:Io} {a:Act} (ht:∀ x,x∈o.looksAt ops→VR m i (t x) (a.tmps.getD x undef)):Region.wanted o (yielded ops a.tmps)=b:=by
 unfold gd at hg
 unfold Region.wanted
 split at hg
 ·rename_i h; rw [h]; cases hg; rfl
 ·rename_i j want h
  rw [h]
  split at hg
  ·cases hg
  ·rename_i d hd
   split at hg
   ·rename_i c hc
    have hgc:b=(c == want):=by cases hg; rfl
    subst hgc
    have h1:=ht d (by simp [Oper.looksAt,h,hd])
    rw [hc] at h1
    have h2:a.tmps.getD d undef=.bool c:=h1
    have h3:a.tmps[d]?=some (.bool c):=by
     rw [Array.getD_eq_getD_getElem?] at h2
     cases he:a.tmps[d]? with
     | none=>rw [he] at h2; simp [undef] at h2
     | some v=>rw [he] at h2; simp at h2; rw [h2]
    simp only [yielded,hd,Option.bind_some,h3]
    cases c <;> cases want <;> rfl
   ·rename_i c hc
    cases hg
    have h1:=ht d (by simp [Oper.looksAt,h,hd])
    rw [hc] at h1
    have h2:a.tmps.getD d undef=.tuple c:=h1
    have h3:a.tmps[d]?=none∨a.tmps[d]?=some (.tuple c):=by
     rw [Array.getD_eq_getD_getElem?] at h2
     cases he:a.tmps[d]? with
     | none=>exact .inl rfl
     | some v=>rw [he] at h2; simp at h2; rw [h2]; exact .inr rfl
    simp only [yielded,hd,Option.bind_some]
    rcases h3 with h3 | h3 <;> rw [h3] <;> rfl
   ·cases hg

theorem aKt {ops:Array Oper} {o:Oper} {k:Nat} (h:Operand.tmp k∈o.op.operands):k∈o.looksAt ops :=
 List.mem_append_left _ (List.mem_filterMap.2 ⟨.tmp k,by simpa using h,rfl⟩)

theorem aYw {a:Act} {d:Option Tmp} {v:Value} {x:Nat} (h:d≠some x):(a.put d v).tmps.getD x undef=a.tmps.getD x undef:=by
 cases d with
 | none=>rfl
 | some d =>
  have hne:d≠x:=fun e=>h (by rw [e])
  simp only [Act.put]
  rw [Array.getD_eq_getD_getElem?,Array.getD_eq_getD_getElem?,Array.getElem?_setIfInBounds_ne hne]

theorem aYU {a:Act} {d:Nat} {v:Value} (h:d<a.tmps.size):(a.put (some d) v).tmps.getD d undef=v:=by
 simp only [Act.put]
 rw [Array.getD_eq_getD_getElem?,Array.getElem?_setIfInBounds_self_of_lt h]
 rfl

theorem aJa {t:mA} {d:Option Nat} {v:AV} {x:Nat} (h:d≠some x):t.put d v x=t x:=by
 cases d with
 | none=>rfl
 | some d =>
  have hne:x≠d:=fun e=>h (by rw [e])
  simp only [mA.put,fN hne,Bool.false_eq_true,if_false]
theorem aWt {t:mA} {d:Nat} {v:AV}:t.put (some d) v d=v:=by simp only [mA.put,eB,if_true]

theorem sP.congr {o:Oper} {t t':mA} {s:aN} {R:AV→aN→Prop} (h:sP P o t s R) (he:∀ k,Operand.tmp k∈o.op.operands→t' k=t k):sP P o t' s R :=
 fun a w m i h1 h2=>h a w m i h1 fun k hk=>he k hk ▸ h2 k hk

theorem aX9 {ops:Array Oper} {o:Oper} {t t':mA} (he:∀ k,k∈o.looksAt ops→t' k=t k):gd ops t' o=gd ops t o:=by
 unfold gd
 cases hg:o.guard with
 | none=>rfl
 | some p =>
  obtain ⟨j,want⟩:=p
  cases hd:(ops[j]?).bind (·.dst) with
  | none=>simp only [hd]
  | some d=>simp only [hd]; rw [he d (by simp [Oper.looksAt,hg,hd])]

theorem aKY.congr {ops:Array Oper} {o:Oper} {t t':mA} {av:AV} {rd:aN} (h:aKY P ops o t av rd) (he:∀ k,k∈o.looksAt ops→t' k=t k):aKY P ops o t' av rd:=by
 rcases h with ⟨h1,h2⟩ | ⟨h1,h2⟩
 ·exact .inl ⟨(aX9 he).trans h1,h2⟩
 ·exact .inr ⟨(aX9 he).trans h1,fun s hs=>(h2 s hs).congr fun k hk=>he k (aKt hk)⟩

theorem aDa {ops:Array Oper} {k:Nat} {o:Oper} (h:ops[k]?=some o):aGA ops k=o.dst:=by simp [aGA,h]
theorem aCm {ops:Array Oper} {k:Nat} {o:Oper} (h:ops[k]?=some o):aGB ops k=o.looksAt ops:=by simp [aGB,h]

theorem Good.pending {ops:Array Oper} {w0 m0 i0 s0 R locks t s listed a w m i fuel} (g:Good P n ops w0 m0 i0 s0 R locks t s listed a w m i (fuel+1)) {k:Nat} (hk:k∈R) (hr:k∈Region.ready .any ops listed)
  {Q:Exit→Act→World→Prop} {K:Act→World→Prop} (hK:∀ a' w' m' i',Good P n ops w0 m0 i0 s0 R locks t s (listed.setIfInBounds k true) a' w' m' i' fuel→K a' w'):wpOp P ops Q k K a w:=by
 obtain ⟨hlt,hl,hpre⟩:=aCj hr g.size
 obtain ⟨o,av,rd,ho,hsem,hav,hlock,hrd,hun,hin,_⟩:=g.pend k hk hl
 -- its operands are there
 have hopd:∀ x,x∈o.looksAt ops→VR m i (t x) (a.tmps.getD x undef):=by
  intro x hx
  rcases g.tr x with ⟨j,hj,hjl,hjd⟩ | h
  ·exfalso
   by_cases e:j=k
   ·subst e
    exact aWs hun hjd (by rw [aCm ho]; exact hx)
   ·obtain ⟨o',av',rd',ho',_,_,_,_,hun',_,_⟩:=g.pend j hj hjl
    have:=(aL0 hun' hjd hlt (Ne.symm e)).2 (by rw [aCm ho]; exact hx)
    have:=hpre j this
    rw [hjl] at this; cases this
  ·exact h
 have next:∀ v w' m' i',VR m' i' av v→nX w' m' i' s→Step w m i s w' m' i' s→Good P n ops w0 m0 i0 s0 R locks t s (listed.setIfInBounds k true) (a.put o.dst v) w' m' i' fuel:=by
  intro v w' m' i' hv hrel hst
  have hget:∀ j,(listed.setIfInBounds k true).getD j false=if j=k then true else listed.getD j false:=by
   intro j
   by_cases e:j=k
   ·subst e
    rw [if_pos rfl,Array.getD_eq_getD_getElem?,Array.getElem?_setIfInBounds_self_of_lt (by rw [g.size]; exact hlt)]
    rfl
   ·rw [if_neg e]; exact getD_set_ne false (Ne.symm e)
  refine ⟨hrel,by simpa using g.size,fun j hj=>?_,fun x=>?_,fun j hj hjl=>?_,?_,size_put.trans g.asz,aAr.trans g.adef,g.step.trans hst⟩
  ·rw [hget] at hj
   by_cases e:j=k
   ·rw [e]; exact hk
   ·rw [if_neg e] at hj; exact g.exec j hj
  ·by_cases hdx:o.dst=some x
   ·refine .inr ?_
    have hxlt:x<a.tmps.size:=by rw [g.asz]; exact aN6 hin x hdx
    rw [hdx,aYU hxlt,hav x hdx]
    exact hv
   ·rw [aYw hdx]
    rcases g.tr x with ⟨j,hj,hjl,hjd⟩ | h
    ·refine .inl ⟨j,hj,?_,hjd⟩
     rw [hget,if_neg]
     ·exact hjl
     ·intro e; subst e; rw [aDa ho] at hjd; exact hdx hjd
    ·exact .inr (VR.mono hst.mu hst.io _ _ h)
  ·rw [hget] at hjl
   by_cases e:j=k
   ·rw [if_pos e] at hjl; cases hjl
   ·rw [if_neg e] at hjl; exact g.pend j hj hjl
  ·have:=aVX hlt g.size hl
   have:=g.count
   omega
 unfold wpOp
 simp only [ho]
 rcases hsem with ⟨h1,h2⟩ | ⟨h1,h2⟩
 ·rw [if_neg (by rw [aN0 h1 hopd]; simp)]
  exact hK _ _ _ _ (next undef w m i (h2 ▸ rfl) g.rel (Step.refl _ _ _ _))
 ·rw [if_pos (aN0 h1 hopd)]
  refine .inl (h2 s hrd a w m i g.rel (fun x hx=>hopd x (aKt hx)) _ _ ?_)
  rintro v w' av' s' m' i' ⟨q1,q2⟩ hv hrel hst
  rw [q1] at hv
  rw [q2] at hrel hst
  exact hK _ _ _ _ (next v w' m' i' hv hrel hst)

theorem Good.none_left {ops:Array Oper} {w0 m0 i0 s0 R locks t s listed a w m i fuel} (g:Good P n ops w0 m0 i0 s0 R locks t s listed a w m i fuel) (hb:aXW ops=true) (hr:Region.ready .any ops listed=[]) :
  (∀ k,k<ops.size→k∈R)∧TR m i t a:=by
 have hall:=bAy hb g.size hr
 refine ⟨fun k hk=>g.exec k (hall k hk),fun x=>?_⟩
 rcases g.tr x with ⟨k,hk,hl,hd⟩ | h
 ·exfalso
  have hlt:k<ops.size:=by
   unfold aGA at hd
   cases ho:ops[k]? with
   | none=>rw [ho] at hd; simp at hd
   | some o=>exact (Array.getElem?_eq_some_iff.1 ho).1
  rw [hall k hlt] at hl; cases hl
 ·exact h

theorem aP3 {ops:Array Oper} {listed:Array Bool} (hsz:listed.size=ops.size) (h:((List.range ops.size).filter fun k=>!listed.getD k false).length≤0):Region.ready .any ops listed=[]:=by
 apply List.eq_nil_iff_forall_not_mem.2
 intro k hk
 obtain ⟨h1,h2,_⟩:=aCj hk hsz
 have:k∈(List.range ops.size).filter fun k=>!listed.getD k false:=by
  rw [List.mem_filter]
  exact ⟨List.mem_range.2 h1,by rw [h2]; rfl⟩
 have:=List.length_pos_of_mem this
 omega

theorem Good.turn {ops:Array Oper} {w0 m0 i0 s0 R locks t s listed a w m ι fuel} (g:Good P n ops w0 m0 i0 s0 R locks t s listed a w m ι (fuel+1)) {k:Nat} {o:Oper} {Rr:AV→aN→Prop} (hk:k∈Region.ready .any ops listed) (hkR:k∉R)
  (ho:ops[k]?=some o) (hslot:aUc ops R k=true) (hd:inB o.dst n=true) (hg:gd ops t o=some true) (hop:sP P o t s Rr)
  (hlk:∀ av s',Rr av s'→∀ l∈locks,rQ l.1 (mI ops k)=true∨∀ p∈l.2,p∈s')
  {Q:Exit→Act→World→Prop} {K:Act→World→Prop} (hK:∀ av s',Rr av s'→∀ a' w' m' i',Good P n ops w0 m0 i0 s0 (k :: R) locks (t.put o.dst av) s' (listed.setIfInBounds k true) a' w' m' i' fuel→K a' w'):wpOp P ops Q k K a w:=by
 obtain ⟨hklt,hkl,hkpre⟩:=aCj hk g.size
 unfold aUc at hslot
 have hopd:∀ x,x∈o.looksAt ops→VR m ι (t x) (a.tmps.getD x undef):=by
  intro x hx
  rcases g.tr x with ⟨j,hj,hjl,hjd⟩ | h
  ·exfalso
   obtain ⟨o',av',rd',ho',_,_,_,_,hun',_,_⟩:=g.pend j hj hjl
   have hne:k≠j:=fun e=>hkR (e ▸ hj)
   have:=(aL0 hun' hjd hklt hne).2 (by rw [aCm ho]; exact hx)
   have:=hkpre j this
   rw [hjl] at this; cases this
  ·exact h
 have hget:∀ j,(listed.setIfInBounds k true).getD j false=if j=k then true else listed.getD j false:=by
  intro j
  by_cases e:j=k
  ·subst e
   rw [if_pos rfl,Array.getD_eq_getD_getElem?,Array.getElem?_setIfInBounds_self_of_lt (by rw [g.size]; exact hklt)]
   rfl
  ·rw [if_neg e]; exact getD_set_ne false (Ne.symm e)
 unfold wpOp
 simp only [ho]
 rw [if_pos (aN0 hg hopd)]
 refine .inl (hop a w m ι g.rel (fun x hx=>hopd x (aKt hx)) _ _ ?_)
 intro v w' av s' m' i' hR hv hrel hst
 have apartd:∀ j∈R,listed.getD j false=false→j<ops.size→∀ d,o.dst=some d→d∉aGB ops j∧aGA ops j≠some d:=by
  intro j hj hjl hjlt d hdd
  rw [aDa ho,hdd] at hslot
  have:=aEs hslot hjlt
  simp only [Bool.or_eq_true,Bool.not_eq_true',Bool.or_eq_false_iff] at this
  have no:¬ rQ j (mI ops k)=true:=fun h=>by
   have:=hkpre j (lL.1 h)
   rw [hjl] at this; cases this
  rcases this with ((h1 | h1) | h1) | h1
  ·exact absurd (Nat.eq_of_beq_eq_true h1 ▸ hj) hkR
  ·rw [lL.2 hj] at h1; cases h1
  ·refine ⟨fun hm=>?_,fun e=>?_⟩
   ·rw [lL.2 hm] at h1; cases h1.1
   ·rw [e] at h1; simp [oeq] at h1
  ·exact absurd h1 no
 refine hK av s' hR _ w' m' i' ⟨hrel,by simpa using g.size,fun j hj=>?_,fun x=>?_,fun j hj hjl=>?_,?_,size_put.trans g.asz,aAr.trans g.adef,g.step.trans hst⟩
 ·rw [hget] at hj
  by_cases e:j=k
  ·rw [e]; exact List.mem_cons_self
  ·rw [if_neg e] at hj; exact List.mem_cons_of_mem _ (g.exec j hj)
 ·by_cases hdx:o.dst=some x
  ·refine .inr ?_
   have hxlt:x<a.tmps.size:=by rw [g.asz]; exact aN6 hd x hdx
   rw [hdx,aYU hxlt,aWt]
   exact hv
  ·rw [aYw hdx,aJa hdx]
   rcases g.tr x with ⟨j,hj,hjl,hjd⟩ | h
   ·refine .inl ⟨j,List.mem_cons_of_mem _ hj,?_,hjd⟩
    rw [hget,if_neg]
    ·exact hjl
    ·intro e; exact hkR (e ▸ hj)
   ·exact .inr (VR.mono hst.mu hst.io _ _ h)
 ·rw [hget] at hjl
  by_cases e:j=k
  ·rw [if_pos e] at hjl; cases hjl
  ·rw [if_neg e] at hjl
   rcases List.mem_cons.1 hj with e' | hj
   ·exact absurd e' e
   obtain ⟨o',av',rd',q1,q2,q3,q4,q5,q6,q7,q8⟩:=g.pend j hj hjl
   have hjlt:j<ops.size:=(Array.getElem?_eq_some_iff.1 q1).1
   refine ⟨o',av',rd',q1,q2.congr fun x hx=>aJa fun e=>?_,fun d hd'=>?_,q4,?_,q6,q7,fun e he=>List.mem_cons_of_mem _ (q8 e he)⟩
   ·exact (apartd j hj hjl hjlt x e).1 (by rw [aCm q1]; exact hx)
   ·rw [aJa]
    ·exact q3 d hd'
    ·intro e
     exact (apartd j hj hjl hjlt d e).2 (by rw [aDa q1]; exact hd')
   ·rcases hlk av s' hR _ q4 with h1 | h1
    ·have:=hkpre j (lL.1 h1)
     rw [hjl] at this; cases this
    ·exact h1
 ·have:=aVX hklt g.size hkl
  have:=g.count
  omega

theorem J.sound {ops:Array Oper} {Q:mA→aN→Prop} (hb:aXW ops=true) {w0:World} {m0:Mu} {i0:Io} {s0:aN} {Q':lZ} (hq:∀ t s,Q t s→Q' .normal t s) {R locks t s} (hJ:J P n ops Q R locks t s) :
  ∀ (fuel:Nat) (listed:Array Bool) (a:Act) (w:World) (m:Mu) (i:Io),Good P n ops w0 m0 i0 s0 R locks t s listed a w m i fuel→wpAny P .any ops (Conc n w0 m0 i0 s0 Q') fuel listed a w:=by
 induction hJ with
 | @done R locks t s hR h =>
  intro fuel
  induction fuel with
  | zero =>
   intro listed a w m i g
   have hr:=aP3 g.size g.count
   exact ⟨hr,t,s,m,i,hq _ _ h,(g.none_left hb hr).2,g.asz,g.adef,g.rel,g.step⟩
  | succ fuel ih =>
   intro listed a w m i g
   refine ⟨fun hr=>⟨t,s,m,i,hq _ _ h,(g.none_left hb hr).2,g.asz,g.adef,g.rel,g.step⟩,fun k hk=>?_⟩
   have hlt:=(aCj hk g.size).1
   exact g.pending (lL.1 (aEs hR hlt)) hk fun a' w' m' i' g'=>ih _ a' w' m' i' g'
 | @light R locks t s i o av rd ho hk hd hl hrd hJ ih =>
  intro fuel listed a w m ι g
  simp only [aSE,ahead,Bool.and_eq_true,Bool.not_eq_true'] at hk
  obtain ⟨⟨⟨hlt,hnR⟩,hpre⟩,hun⟩:=hk
  have hnR':i∉R:=fun h=>by rw [lL.2 h] at hnR; cases hnR
  have hil:listed.getD i false=false:=by
   cases h:listed.getD i false with
   | false=>rfl
   | true=>exact absurd (g.exec i h) hnR'
  have hpre':∀ k∈mI ops i,k∈R:=fun k hk=>lL.1 (List.all_eq_true.1 hpre k hk)
  refine ih fuel listed a w m ι ⟨g.rel,g.size,fun k hk=>List.mem_cons_of_mem _ (g.exec k hk),fun x=>?_,fun k hk hkl=>?_,g.count,g.asz,g.adef,g.step⟩
  ·by_cases hdx:o.dst=some x
   ·exact .inl ⟨i,List.mem_cons_self,hil,by rw [aDa ho]; exact hdx⟩
   ·rw [aJa hdx]
    rcases g.tr x with ⟨k,h1,h2,h3⟩ | h
    ·exact .inl ⟨k,List.mem_cons_of_mem _ h1,h2,h3⟩
    ·exact .inr h
  ·rcases List.mem_cons.1 hk with rfl | hk
   ·refine ⟨o,av,rd,ho,hl.congr fun x hx=>aJa fun e=>?_,fun d hd'=>by rw [hd']; exact aWt,List.mem_cons_self,hrd,hun,hd,fun e he=>List.mem_cons_of_mem _ (hpre' e he)⟩
    exact aWs hun (by rw [aDa ho]; exact e) (by rw [aCm ho]; exact hx)
   ·obtain ⟨o',av',rd',q1,q2,q3,q4,q5,q6,q7,q8⟩:=g.pend k hk hkl
    have hne:k≠i:=fun e=>hnR' (e ▸ hk)
    have hklt:k<ops.size:=(Array.getElem?_eq_some_iff.1 q1).1
    have hilt:i<ops.size:=(Array.getElem?_eq_some_iff.1 ho).1
    refine ⟨o',av',rd',q1,q2.congr fun x hx=>aJa fun e=>?_,fun d hd'=>?_,List.mem_cons_of_mem _ q4,q5,q6,q7,fun e he=>List.mem_cons_of_mem _ (q8 e he)⟩
    ·have:=(aL0 hun (by rw [aDa ho]; exact e) hklt hne).2 (by rw [aCm q1]; exact hx)
     exact hnR' (q8 i this)
    ·rw [aJa]
     ·exact q3 d hd'
     ·intro e
      exact (aL0 hun (by rw [aDa ho]; exact e) hklt hne).1 (by rw [aDa q1]; exact hd')
 | @heavy R locks t s i o Rr ho hk hd hg hop hlk hJ ih =>
  intro fuel
  simp only [aSA,ahead,Bool.and_eq_true,Bool.not_eq_true'] at hk
  obtain ⟨⟨⟨⟨hlt,hnR⟩,hpre⟩,hother⟩,hslot⟩:=hk
  have hnR':i∉R:=fun h=>by rw [lL.2 h] at hnR; cases hnR
  have hilt:i<ops.size:=(Array.getElem?_eq_some_iff.1 ho).1
  induction fuel with
  | zero =>
   intro listed a w m ι g
   have hr:=aP3 g.size g.count
   exact absurd ((g.none_left hb hr).1 i hilt) hnR'
  | succ fuel ihf =>
   intro listed a w m ι g
   refine ⟨fun hr=>absurd ((g.none_left hb hr).1 i hilt) hnR',fun k hk=>?_⟩
   obtain ⟨hklt,hkl,hkpre⟩:=aCj hk g.size
   by_cases hkR:k∈R
   ·exact g.pending hkR hk fun a' w' m' i' g'=>ihf _ a' w' m' i' g'
   ·by_cases hki:k=i
    ·subst hki
     refine g.turn hk hkR ho hslot hd hg hop hlk ?_
     intro av s' hR a' w' m' i' g'
     exact ih av s' hR fuel _ _ w' m' i' g'
    ·exfalso
     have:=aEs hother hklt
     simp only [Bool.or_eq_true,List.any_eq_true,Bool.not_eq_true'] at this
     rcases this with (h1 | h1) | ⟨e,he,h2⟩
     ·exact hkR (lL.1 h1)
     ·exact hki (Nat.eq_of_beq_eq_true h1)
     ·have:=g.exec e (hkpre e he)
      rw [lL.2 this] at h2; cases h2
 | @two R locks t s i o Rr j o2 Rr2 ho ho2 hk hd hg hop hlk _ hd2 hg2 hop2 hlk2 _ ih ih2 =>
  intro fuel
  simp only [bF7,ahead,Bool.and_eq_true,Bool.not_eq_true'] at hk
  obtain ⟨⟨⟨⟨⟨hlt,hnR⟩,hpre⟩,⟨⟨hlt2,hnR2⟩,hpre2⟩⟩,hother⟩,hslot,hslot2⟩:=hk
  have hnR':i∉R:=fun h=>by rw [lL.2 h] at hnR; cases hnR
  have hilt:i<ops.size:=(Array.getElem?_eq_some_iff.1 ho).1
  induction fuel with
  | zero =>
   intro listed a w m ι g
   have hr:=aP3 g.size g.count
   exact absurd ((g.none_left hb hr).1 i hilt) hnR'
  | succ fuel ihf =>
   intro listed a w m ι g
   refine ⟨fun hr=>absurd ((g.none_left hb hr).1 i hilt) hnR',fun k hk=>?_⟩
   obtain ⟨hklt,hkl,hkpre⟩:=aCj hk g.size
   by_cases hkR:k∈R
   ·exact g.pending hkR hk fun a' w' m' i' g'=>ihf _ a' w' m' i' g'
   ·by_cases hki:k=i
    ·subst hki
     refine g.turn hk hkR ho hslot hd hg hop hlk ?_
     intro av s' hR a' w' m' i' g'
     exact ih av s' hR fuel _ _ w' m' i' g'
    ·by_cases hkj:k=j
     ·subst hkj
      refine g.turn hk hkR ho2 hslot2 hd2 hg2 hop2 hlk2 ?_
      intro av s' hR a' w' m' i' g'
      exact ih2 av s' hR fuel _ _ w' m' i' g'
     exfalso
     have:=aEs hother hklt
     simp only [Bool.or_eq_true,List.any_eq_true,Bool.not_eq_true'] at this
     rcases this with ((h1 | h1) | h1) | ⟨e,he,h2⟩
     ·exact hkR (lL.1 h1)
     ·exact hki (Nat.eq_of_beq_eq_true h1)
     ·exact hkj (Nat.eq_of_beq_eq_true h1)
     ·have:=g.exec e (hkpre e he)
      rw [lL.2 this] at h2; cases h2
 | perm hp _ ih =>
  intro fuel listed a w m ι g
  refine ih fuel listed a w m ι ⟨g.rel.perm hp,g.size,g.exec,g.tr,fun k hk hkl=>?_,g.count,g.asz,g.adef,g.step.perm (List.Perm.refl _) hp⟩
  obtain ⟨o',av',rd',q1,q2,q3,q4,q5,q6⟩:=g.pend k hk hkl
  exact ⟨o',av',rd',q1,q2,q3,q4,fun p hp'=>hp.mem_iff.1 (q5 p hp'),q6⟩
 | reR hm _ ih =>
  intro fuel listed a w m ι g
  refine ih fuel listed a w m ι ⟨g.rel,g.size,fun k hk=>(hm k).1 (g.exec k hk),fun x=>?_,fun k hk hkl=>?_,g.count,g.asz,g.adef,g.step⟩
  ·rcases g.tr x with ⟨k,h1,h2⟩ | h
   ·exact .inl ⟨k,(hm k).1 h1,h2⟩
   ·exact .inr h
  ·obtain ⟨o',av',rd',q1,q2,q3,q4,q5,q6,q7,q8⟩:=g.pend k ((hm k).2 hk) hkl
   exact ⟨o',av',rd',q1,q2,q3,q4,q5,q6,q7,fun e he=>(hm e).1 (q8 e he)⟩

theorem nX.drew {w m i} {s:aN} (h:nX w m i s) (d:Nat):nX { w with drawn:=d } m i s∧Step w m i s { w with drawn:=d } m i s :=
 ⟨⟨h.mu,fun p hp=>(h.obj p hp).mono_block (Mu.le_refl _) (Io.le_refl _) (fun _ _=>rfl) (fun _ _ _=>rfl),h.apart,h.fin,h.tab⟩,
  ⟨rfl,rfl,rfl,Nat.le_refl _,Mu.le_refl _,Io.le_refl _,fun _ _ _=>rfl,fun _ _ _ _=>rfl,fun p hp=>.inl ⟨p,hp,rfl⟩,fun _ h=>.inl h⟩⟩

theorem bFg {id:Nat} {ops:Array Oper} {Q:lZ} {t:mA} {s:aN} (hm:P.follows .mixedOrders=true) (hb:aXW ops=true) (h:J P n ops (Q .normal) [] [] t s):AWp P n (.region id ops true) Q t s:=by
 intro a w m i h1 h2 h3 h4
 refine wp_region_any hm ?_
 obtain ⟨r1,r2⟩:=h1.drew (w.drawn+1)
 refine J.sound hb (Q':=Q) (fun _ _ h=>h) h ops.size _ a _ m i ⟨r1,by simp,fun k hk=>?_,fun x=>.inr (h2 x),(fun k hk=>by cases hk),?_,h3,h4,r2⟩
 ·exfalso
  rw [Array.getD_eq_getD_getElem?,Array.getElem?_replicate] at hk
  split at hk <;> simp at hk
 ·exact Nat.le_trans (List.length_filter_le _ _) (by simp)

theorem J.sub {ops:Array Oper} {Q:mA→aN→Prop} {R:List Nat} {locks locks':List (Nat×aN)} {t:mA} {s:aN} (h:J P n ops Q R locks t s) (hl:∀ l∈locks',l∈locks∨l.2=[]):J P n ops Q R locks' t s:=by
 induction h generalizing locks' with
 | done hR h=>exact .done hR h
 | light i o av rd ho hk hd hsem hrd _ ih =>
  refine .light i o av rd ho hk hd hsem hrd (ih fun l hm=>?_)
  rcases List.mem_cons.1 hm with rfl | hm
  ·exact .inl List.mem_cons_self
  ·exact (hl l hm).imp (List.mem_cons_of_mem _) id
 | heavy i o Rr ho hk hd hg hop hlk _ ih =>
  refine .heavy i o Rr ho hk hd hg hop (fun av s' hR l hm=>?_) fun av s' hR=>ih av s' hR hl
  rcases hl l hm with h1 | h1
  ·exact hlk av s' hR l h1
  ·exact .inr (by rw [h1]; intro p hp; cases hp)
 | two i o Rr j o2 Rr2 ho ho2 hk hd hg hop hlk _ hd2 hg2 hop2 hlk2 _ ih ih2 =>
  refine .two i o Rr j o2 Rr2 ho ho2 hk hd hg hop (fun av s' hR l hm=>?_) (fun av s' hR=>ih av s' hR hl) hd2 hg2 hop2 (fun av s' hR l hm=>?_) (fun av s' hR=>ih2 av s' hR hl)
  ·rcases hl l hm with h1 | h1
   ·exact hlk av s' hR l h1
   ·exact .inr (by rw [h1]; intro p hp; cases hp)
  ·rcases hl l hm with h1 | h1
   ·exact hlk2 av s' hR l h1
   ·exact .inr (by rw [h1]; intro p hp; cases hp)
 | perm hp _ ih=>exact .perm hp (ih hl)
 | reR hm _ ih=>exact .reR hm (ih hl)

theorem aXu {c:Code} {Q:lZ} {t:mA} {s:aN} (live:List (Nat×AV)) (h:(live.map (·.1)).map t=live.map (·.2)) (k:AWp P n c Q (aRp live) s):AWp P n c Q t s :=
 fun a w m i h1 h2 h3 h4=>k a w m i h1 (h2.sub (aQc live h)) h3 h4

end
end Go.Am

/- The abstract machine, part 12: what the printed proofs lean on: loops by rounds, lists of one kind, tests. -/
namespace Go.Am
open Go

def aU {α:Type} (l:List α) (i:Int):Option α:=if 0≤i then l[i.toNat]? else none
theorem aCz {α:Type} {l:List α} {i:Int} {x:α} (h:aU l i=some x):0≤i∧i<l.length∧l[i.toNat]?=some x:=by
 unfold aU at h
 split at h
 ·rename_i h0
  have:=(List.getElem?_eq_some_iff.1 h).1
  exact ⟨h0,by omega,h⟩
 ·cases h

section
variable {P:Program} {T:TT} {n:Nat} {t:mA} {s:aN}

theorem aXY {α:Type} {g:α→AV}:∀ {l:List α} {j:Nat} {x:α},l[j]?=some x→∃ r,(l.map g).drop j=g x :: r
 | [],_,_,h=>by simp at h
 | y :: l,0,x,h=>by simp at h; subst h; exact ⟨_,rfl⟩
 | y :: l,j+1,x,h=>by
  simp at h
  exact aXY (l:=l) (j:=j) h

theorem aLQ {α:Type} {e:α→List AV} {sz:Nat} (he:∀ x,(e x).length=sz):∀ {l:List α} {j:Nat} {x:α},l[j]?=some x→∃ r,(l.flatMap e).drop (j * sz)=e x++r
 | [],_,_,h=>by simp at h
 | y :: l,0,x,h=>by simp at h; subst h; exact ⟨l.flatMap e,by simp⟩
 | y :: l,j+1,x,h=>by
  simp at h
  obtain ⟨r,hr⟩:=aLQ he (l:=l) (j:=j) h
  refine ⟨r,?_⟩
  rw [List.flatMap_cons,show (j+1) * sz=(e y).length+j * sz from by rw [he,Nat.add_mul]; omega,List.drop_append,List.drop_of_length_le (by omega)]
  simpa using hr

theorem bDi {α:Type} (h:eG P T) {o:Oper} {ty e:Nat} {x y:Operand} {g:α→AV} {l:List α} {fu:Bool} {k:IntKind} {j:Int} {v:α} (ho:o.op=.indexAddr ty x y) (hk:lk T.kd ty=some (.slice e)) (hsz:lk T.sz e=some 1)
  (hx:ev t x=.slc (l.map g) l.length fu) (hy:ev t y=.lit (.int k j)) (hv:aU l j=some v):sP P o t s (fun z s'=>z=.ptr [g v]∧s'=s):=by
 obtain ⟨h0,h1,h2⟩:=aCz hv
 intro a w m i hr hop K Q hK
 refine aJd h ho hk hsz hx hy h0 h1 a w m i hr hop K Q ?_
 rintro u w' _ _ m' i' ⟨rfl,rfl⟩ hu hr' hst
 obtain ⟨r,hr2⟩:=aXY (g:=g) h2
 refine hK u w' (.ptr [g v]) _ m' i' ⟨rfl,rfl⟩ ?_ hr' hst
 rw [Nat.mul_one,hr2] at hu
 exact jS.ptr_take [g v] r _ _ _ hu

theorem aYD {α:Type} (h:eG P T) {o:Oper} {ty e sz:Nat} {x y:Operand} {g:α→List AV} (hg:∀ x,(g x).length=sz) {l:List α} {fu:Bool} {k:IntKind} {j:Int} {v:α} (ho:o.op=.indexAddr ty x y) (hk:lk T.kd ty=some (.slice e)) (hsz:lk T.sz e=some sz)
  (hx:ev t x=.slc (l.flatMap g) l.length fu) (hy:ev t y=.lit (.int k j)) (hv:aU l j=some v):sP P o t s (fun z s'=>z=.ptr (g v)∧s'=s):=by
 obtain ⟨h0,h1,h2⟩:=aCz hv
 intro a w m i hr hop K Q hK
 refine aJd h ho hk hsz hx hy h0 h1 a w m i hr hop K Q ?_
 rintro u w' _ _ m' i' ⟨rfl,rfl⟩ hu hr' hst
 obtain ⟨r,hr2⟩:=aLQ hg h2
 refine hK u w' (.ptr (g v)) _ m' i' ⟨rfl,rfl⟩ ?_ hr' hst
 rw [hr2] at hu
 exact jS.ptr_take (g v) r _ _ _ hu

def jA {α:Type} (l:List α) (a b:Int):Option (List α):=if 0≤a∧a≤b∧b≤l.length then some ((l.take b.toNat).drop a.toNat) else none
def catS (l r:List UInt8):Option (List UInt8):=if l.length+r.length≤9223372036854775807 then some (l++r) else none
def aAt {α:Type} (by':Nat) (l m:List α):Option (List α):=if (l.length+m.length) * by'≤140737488355328 then some (l++m) else none
def mkL {α:Type} (by':Nat) (z:α) (n:Int):Option (List α):=if 0≤n∧n.toNat * by'≤140737488355328 then some (List.replicate n.toNat z) else none

theorem aM {α β:Type} {x:Option α} {f:α→Option β} {r:β} (h:x.bind f=some r):∃ y,x=some y∧f y=some r:=by
 cases x with
 | none=>cases h
 | some y=>exact ⟨y,rfl,h⟩
theorem aWx {α:Type} {l x:List α} {a b:Int} (h:jA l a b=some x):0≤a∧a≤b∧b≤l.length∧x=(l.take b.toNat).drop a.toNat∧x.length=b.toNat - a.toNat:=by
 unfold jA at h
 split at h
 ·rename_i hc
  cases h
  refine ⟨hc.1,hc.2.1,hc.2.2,rfl,?_⟩
  rw [List.length_drop,List.length_take]; omega
 ·cases h

theorem bBu {o:Oper} {ty yt:Nat} {x y:Operand} {l r v:List UInt8} (hv:catS l r=some v) (ho:o.op=.binOp .add ty x y yt) (hx:ev t x=.s l) (hy:ev t y=.s r) :
  sP P o t s (fun z s'=>z=.s v∧s'=s):=by
 unfold catS at hv
 split at hv
 ·rename_i hc; cases hv; exact aZM ho hx hy hc
 ·cases hv

theorem bEI (h:eG P T) {o:Oper} {ty:Nat} {x y:Operand} {l:List UInt8} {k:IntKind} {j:Int} {c:UInt8} (hv:aU l j=some c) (ho:o.op=.index ty x y) (hk:lk T.kd ty=some .string)
  (hx:ev t x=.s l) (hy:ev t y=.lit (.int k j)):sP P o t s (fun v z=>v=.lit (.int .u8 c.toNat)∧z=s) :=
 aWR h ho hk hx hy (aCz hv).1 (aCz hv).2.2

theorem bD3 (h:eG P T) {o:Oper} {ty:Nat} {x:Operand} {lo hi:Option Operand} {l v:List UInt8} {a1 b1:Int} (hv:jA l a1 b1=some v) (ho:o.op=.slice ty x lo hi none) (hk:lk T.kd ty=some .string)
  (hx:ev t x=.s l) (hlo:(lo.map (ev t)).getD (.i 0)=.i a1) (hhi:(hi.map (ev t)).getD (.i l.length)=.i b1):sP P o t s (fun z s'=>z=.s v∧s'=s):=by
 obtain ⟨h0,h1,h2,rfl,_⟩:=aWx hv
 exact aXt h ho hk hx hlo hhi h0 h1 h2

theorem sP.view {o:Oper} {x y:AV} (h:sP P o t s (fun z s'=>z=x∧s'=s)) (hv:∀ m i v,VR m i x v→VR m i y v):sP P o t s (fun z s'=>z=y∧s'=s):=by
 intro a w m i hr hop K Q hK
 refine h a w m i hr hop K Q ?_
 rintro u w' _ _ m' i' ⟨rfl,rfl⟩ hu hr' hst
 exact hK u w' y _ m' i' ⟨rfl,rfl⟩ (hv _ _ _ hu) hr' hst

theorem aV4 {α:Type} {e:α→List AV} {sz:Nat} (he:∀ x,(e x).length=sz):∀ (l:List α) (k:Nat),(l.flatMap e).take (k * sz)=(l.take k).flatMap e
 | [],k=>by simp
 | y :: l,0=>by simp
 | y :: l,k+1=>by
  rw [List.flatMap_cons,List.take_succ_cons,List.flatMap_cons,show (k+1) * sz=(e y).length+k * sz from by rw [he,Nat.add_mul]; omega,List.take_append,List.take_of_length_le (by omega),
   show (e y).length+k * sz - (e y).length=k * sz from by omega,aV4 he l k]
theorem aVW {α:Type} {e:α→List AV} {sz:Nat} (he:∀ x,(e x).length=sz):∀ (l:List α) (k:Nat),(l.flatMap e).drop (k * sz)=(l.drop k).flatMap e
 | [],k=>by simp
 | y :: l,0=>by simp
 | y :: l,k+1=>by
  rw [List.flatMap_cons,List.drop_succ_cons,show (k+1) * sz=(e y).length+k * sz from by rw [he,Nat.add_mul]; omega,List.drop_append,List.drop_of_length_le (by omega),
   show (e y).length+k * sz - (e y).length=k * sz from by omega,aVW he l k]
  rfl
theorem aC5 {α:Type} {e:α→List AV} {sz:Nat} (he:∀ x,(e x).length=sz):∀ (l:List α),(l.flatMap e).length=l.length * sz
 | []=>by simp
 | y :: l=>by rw [List.flatMap_cons,List.length_append,aC5 he l,he,List.length_cons,Nat.add_mul]; omega

theorem bDg {α:Type} (h:eG P T) {o:Oper} {ty e sz:Nat} {x:Operand} {lo hi:Option Operand} {g:α→List AV} (hg:∀ x,(g x).length=sz) {l v:List α} {fu:Bool} {a1 b1:Int} (hv:jA l a1 b1=some v) (ho:o.op=.slice ty x lo hi none) (hk:lk T.kd ty=some (.slice e)) (hsz:lk T.sz e=some sz)
  (hx:ev t x=.slc (l.flatMap g) l.length fu) (hlo:(lo.map (ev t)).getD (.i 0)=.i a1) (hhi:(hi.map (ev t)).getD (.i l.length)=.i b1):sP P o t s (fun z s'=>z=.slc (v.flatMap g) v.length false∧s'=s):=by
 obtain ⟨h0,h1,h2,hv1,hv2⟩:=aWx hv
 refine (aXD h ho hk hsz hx hlo hhi h0 h1 h2).view fun m i u hu=>?_
 rw [aV4 hg,aVW hg,← hv1,← hv2] at hu
 exact hu

theorem aYq (h:eG P T) {o:Oper} {ty e sz:Nat} {x y z:Operand} {cs:List AV} {n:Nat} {fu:Bool} (ho:o.op=.slice ty x none (some y) (some z)) (hk:lk T.kd ty=some (.slice e)) (hsz:lk T.sz e=some sz)
  (hx:ev t x=.slc cs n fu) (hy:ev t y=.i n) (hz:ev t z=.i n):sP P o t s (fun v z=>v=.slc cs n true∧z=s):=by
 refine fM fun a w m i hr hop=>?_
 rw [ho] at hop
 have v1:=yX (x:=x) hop (by simp [Op.operands])
 have v2:=yX (x:=y) hop (by simp [Op.operands])
 have v3:=yX (x:=z) hop (by simp [Op.operands])
 rw [hx] at v1; rw [hy] at v2; rw [hz] at v3
 have v2':a.eval y=.int .i64 n:=v2
 have v3':a.eval z=.int .i64 n:=v3
 obtain ⟨i0,hi0,hs⟩:=h.size hsz
 have hund:=aAK h hk
 have hb:∀ cap:Nat,n≤cap→(Instr.sliceBounds true n cap none (some (.int .i64 n)) (some (.int .i64 n))).run P w=.ok (0,n,n) w:=fun cap hc=>by
  simp [Instr.sliceBounds,run_sliceBound _ _ _ _ _ (show (0:Int)≤n by omega) (show (n:Int)≤(cap:Int) by omega),run_sliceBound _ _ _ _ _ (show (0:Int)≤n by omega) (show (n:Int)≤(n:Int) by omega)]
 rcases v1 with ⟨h1,h2,q,h3⟩ | ⟨b,o',cap,e1,e2,e2',e3,e4⟩
 ·subst h1
  subst h2
  refine ⟨.slice q 0 0,?_,.inl ⟨rfl,rfl,q,rfl⟩⟩
  simp [execOp,ho,Instr.sliceAt,run_underlying hund,Instr.slice,v2',v3',h3,sizeOf,typeInfo,hi0,Instr.sliceBounds,run_sliceBound _ _ _ _ _ (show (0:Int)≤0 by omega) (show (0:Int)≤((0:Nat):Int) by omega)]
 ·by_cases hn:n=0
  ·refine ⟨.slice (some ⟨b,o',none⟩) n n,?_,.inr ⟨b,o',n,rfl,Nat.le_refl _,by omega,fun _=>rfl,e4⟩⟩
   subst hn
   simp [execOp,ho,Instr.sliceAt,run_underlying hund,Instr.slice,v2',v3',e1,sizeOf,typeInfo,hi0,Instr.sliceBounds,run_sliceBound _ _ _ _ _ (show (0:Int)≤0 by omega) (show (0:Int)≤((0:Nat):Int) by omega),run_sliceBound _ _ _ _ _ (show (0:Int)≤0 by omega) (show (0:Int)≤(cap:Int) by omega)]
  ·refine ⟨.slice (some ⟨b,o',none⟩) n n,?_,.inr ⟨b,o',n,rfl,Nat.le_refl _,by omega,fun _=>rfl,e4⟩⟩
   simp [execOp,ho,Instr.sliceAt,run_underlying hund,Instr.slice,v2',v3',e1,hb cap e2,sizeOf,typeInfo,hi0,hs,add_lit,hn]

theorem aV6 {α:Type} {by':Nat} {l m x:List α} (h:aAt by' l m=some x):(l.length+m.length) * by'≤140737488355328∧x=l++m:=by
 unfold aAt at h
 split at h
 ·rename_i hc; cases h; exact ⟨hc,rfl⟩
 ·cases h

theorem aYe {α:Type} (h:eG P T) {o:Oper} {x y:Operand} {ty e j id fz by' sz:Nat} {g:α→List AV} (hg:∀ x,(g x).length=sz) {l d v:List α} {f:Bool} {zs:List Value} (hv:aAt by' l d=some v)
  (ho:o.op=.call ⟨.builtin .append,#[x,y],#[ty,ty]⟩) (hk:lk T.kd ty=some (.slice e)) (hs:lk T.sz e=some sz) (hz:lk T.zero e=some zs) (hzl:Nat.beq zs.length sz=true) (hby:lk T.by' e=some by') (hb1:Nat.blt 0 by'=true)
  (hx:ev t x=.row id l.length) (hy:ev t y=.slc (d.flatMap g) d.length f) (hj:s[j]?=some (id,.row e sz (l.flatMap g) fz)) :
  sP P o t s (fun z s'=>∃ id',z=.row id' v.length∧s'=(id',.row e sz (v.flatMap g) fz) :: s.eraseIdx j):=by
 obtain ⟨hb,rfl⟩:=aV6 hv
 rw [List.flatMap_append,List.length_append]
 exact aZF h ho hk hs hz hzl hby hx hy hj (aC5 hg l) (aC5 hg d) hb hb1

theorem bDf {α:Type} (g:α→AV) (z:α) (v:Value) (hv:jS (AV.lit v) (g z)) (n:Nat):WL ((List.range (n * 1)).map fun j=>([v].map AV.lit).getD (j % 1) .any) ((List.replicate n z).map g):=by
 rw [Nat.mul_one]
 have:∀ (l:List Nat),WL (l.map fun j=>([v].map AV.lit).getD (j % 1) .any) ((List.replicate l.length z).map g):=by
  intro l
  induction l with
  | nil=>exact WL.nil
  | cons x l ih=>exact WL.cons (by simpa [Nat.mod_one] using hv) ih
 simpa using this (List.range n)

theorem WL.length:∀ {xs ys:List AV},WL xs ys→ys.length=xs.length
 | [],_,h=>by rw [h]
 | x :: xs,_,⟨y,ys,h1,_,h3⟩=>by subst h1; simp [WL.length h3]

theorem nX.weakHead {w m i} {k e sz fz:Nat} {cs ds:List AV} (h:nX w m i ((k,.row e sz cs fz) :: s)) (hw:WL cs ds):nX w m i ((k,.row e sz ds fz) :: s):=by
 have hl:=hw.length
 refine ⟨h.mu,fun p hp=>?_,?_,h.fin,h.tab⟩
 ·rcases List.mem_cons.1 hp with rfl | hp
  ·rcases h.obj _ List.mem_cons_self with ⟨g1,g2,g3⟩ | ⟨b,cap,vs,g1,g2,g3,g4,g5,g6,g7,g8,g9⟩
   ·subst g2
    cases hw
    exact .inl ⟨g1,rfl,g3⟩
   ·exact .inr ⟨b,cap,vs,g1,g2,g3,g4,by rw [hl]; exact g5,by rw [hl]; exact g6,by rw [hl]; exact g7,by rw [hl]; exact hw.vl g8,g9⟩
  ·exact h.obj p (List.mem_cons_of_mem _ hp)
 ·have:=List.pairwise_cons.1 h.apart
  exact List.pairwise_cons.2 ⟨fun q hq=>this.1 q hq,this.2⟩

theorem bFl {α:Type} (h:eG P T) {o:Oper} {ty e by':Nat} {x y:Operand} {v:Value} {g:α→AV} {z:α} {r:List α} {k1 k2:IntKind} {l:Int} (hr:mkL by' z l=some r)
  (ho:o.op=.makeSlice ty x y) (hk:lk T.kd ty=some (.slice e)) (hs:lk T.sz e=some 1) (hz:lk T.zero e=some [v]) (h1:v.oneCell'=true) (hby:lk T.by' e=some by') (hb1:Nat.blt 0 by'=true) (hg:jS (AV.lit v) (g z))
  (hx:ev t x=.lit (.int k1 l)) (hy:ev t y=.lit (.int k2 l)) :
  sP P o t s (fun v z=>∃ id,v=.row id r.length∧z=(id,.row e 1 (r.map g) 0) :: s):=by
 unfold mkL at hr
 split at hr
 ·rename_i hc
  cases hr
  rw [List.length_replicate]
  intro a w mu i hr hop K Q hK
  refine aVC h ho hk hs hz (by simp [h1]) hby hx hy hc.1 hc.2 hb1 a w mu i hr hop K Q ?_
  rintro u w' _ _ m' i' ⟨id,rfl,rfl⟩ hu hr' hst
  exact hK u w' (.row id l.toNat) _ m' i' ⟨id,rfl,rfl⟩ hu (hr'.weakHead (bDf g z v hg _)) ⟨hst.os,hst.tape,hst.output,hst.size,hst.mu,hst.io,hst.block,hst.mu',fun p hp=>(by
   rcases List.mem_cons.1 hp with rfl | hp
   ·exact hst.ids (id,.row e 1 ((List.range (l.toNat * 1)).map fun j=>([v].map AV.lit).getD (j % 1) .any) 0) List.mem_cons_self
   ·exact hst.ids _ (List.mem_cons_of_mem _ hp)),fun b ⟨p,hp,e'⟩=>(by
   rcases List.mem_cons.1 hp with rfl | hp
   ·exact hst.blks b ⟨(id,.row e 1 ((List.range (l.toNat * 1)).map fun j=>([v].map AV.lit).getD (j % 1) .any) 0),List.mem_cons_self,e'⟩
   ·exact hst.blks b ⟨p,List.mem_cons_of_mem _ hp,e'⟩)⟩
 ·cases hr

theorem aVd {α:Type} (h:eG P T) {o:Oper} {ty:Nat} {x y:Operand} {id j e:Nat} {g:α→AV} {l:List α} {k:Int} {v u:α} {y':AV} (hv:aU l k=some v) (ho:o.op=.store ty x y) (hl:T.lay ty=some (false,1)) (hx:ev t x=.ref id k.toNat) (hy:ev t y=y')
  (hw:eM (s.set j (id,.row e 1 ((l.map g).set k.toNat y') 0)) y' (g u)) (hsc:y'.scalar=true) (hj:s[j]?=some (id,.row e 1 (l.map g) 0)) :
  sP P o t s (fun z s'=>z=.any∧s'=s.set j (id,.row e 1 ((l.set k.toNat u).map g) 0)):=by
 obtain ⟨h0,h1,h2⟩:=aCz hv
 have hlt:k.toNat<l.length:=by omega
 have hjlt:j<s.length:=(List.getElem?_eq_some_iff.1 hj).1
 have this:=aEc (P:=P) (ds:=[y']) h ho hx hj (by rw [hl,hy,hsc]; rfl) (by simp [Nat.ble_eq]; omega)
 have e1:(l.map g).take k.toNat++[y']++(l.map g).drop (k.toNat + [y'].length)=(l.map g).set k.toNat y':=by
  rw [List.set_eq_take_append_cons_drop,if_pos (by simpa using hlt)]
  simp
 rw [e1] at this
 have sh:=iQ.cell (t:=fun _=>.any) (s:=s.set j (id,.row e 1 ((l.map g).set k.toNat y') 0)) (j:=j) (id:=id) (e:=e) k.toNat (x:=y') (y:=g u) (by rw [List.getElem?_set_self hjlt]) (by rw [List.getElem?_set_self (by simpa using hlt)]) hw
 intro a w m i hr hop K Q hk
 refine this a w m i hr hop K Q ?_
 rintro v w' av s' m' i' ⟨rfl,rfl⟩ hvr hrel hst
 obtain ⟨m2,i2,r1,_,r3⟩:=sh w' m' i' a hrel (fun _=>trivial)
 rw [List.set_set,List.set_set,← List.map_set] at r1 r3
 exact hk v w' .any _ m2 i2 ⟨rfl,rfl⟩ trivial r1 (hst.trans r3)

theorem WL.slc {xs ys:List AV} {n:Nat} {f:Bool} (h:WL xs ys):jS (.slc xs n f) (.slc ys n f):=by
 intro m i v hv
 rcases hv with ⟨h1,h2,h3⟩ | ⟨b,o,cap,h1,h2,h3,h4,h5⟩
 ·subst h2; cases h; exact .inl ⟨h1,rfl,h3⟩
 ·exact .inr ⟨b,o,cap,h1,h2,h3,h4,h.vc h5⟩
theorem jS.nslc (cs:List AV) (n:Nat) (f:Bool):jS (.nslc cs n f) (.slc cs n f):=fun _ _ _ h=>by
 rcases h with ⟨h1,h2,a,h3⟩ | h
 ·exact .inl ⟨h1,h2,_,h3⟩
 ·exact .inr h

end
end Go.Am

/- The abstract machine, part 13: small steps that the printed proofs take. -/
namespace Go.Am
open Go

def sel:aN→List Nat→aN
 | l,[]=>l
 | l,i :: is=>match l[i]? with
  | some x=>x :: sel (l.eraseIdx i) is
  | none=>l

theorem aSS:∀ {l:aN} {i:Nat} {x:Nat×Ob},l[i]?=some x→l.Perm (x :: l.eraseIdx i)
 | [],_,_,h=>by simp at h
 | y :: l,0,x,h=>by simp at h; subst h; exact List.Perm.refl _
 | y :: l,i+1,x,h=>by
  simp at h
  exact ((aSS (l:=l) (i:=i) h).cons y).trans (List.Perm.swap x y _)

theorem vO:∀ (l:aN) (is:List Nat),l.Perm (sel l is)
 | l,[]=>List.Perm.refl _
 | l,i :: is=>by
  unfold sel
  split
  ·rename_i x hx
   exact (aSS hx).trans ((vO (l.eraseIdx i) is).cons x)
  ·exact List.Perm.refl _

section
variable {P:Program} {T:TT} {n:Nat} {t:mA} {s:aN}

theorem iQ.drop {s':aN} (h:s'.Sublist s):iQ t s t s':=fun w m i _a h1 h2=>⟨m,i,h1.sub h,h2,(Step.refl w m i s).forget fun _p hp=>h.subset hp⟩
theorem iQ.sel (is:List Nat):iQ t s t (sel s is):=fun w m i _a h1 h2=>⟨m,i,h1.perm (vO s is),h2,(Step.refl w m i s).perm (List.Perm.refl _) (vO s is)⟩
theorem bHn {c:Code} {Q:lZ} (is:List Nat) {s':aN} (he:sel s is=s') (k:AWp P n c Q t s'):AWp P n c Q t s:=by
 subst he; exact aKL (iQ.sel is) k
theorem aEu {c:Code} {Q:lZ} (live:List (Nat×AV)) {s':aN} (h:(live.map (·.1)).map t=live.map (·.2)) (hs:s=s') (k:AWp P n c Q (aRp live) s'):AWp P n c Q t s:=by
 subst hs; exact aXu live h k

theorem aQr (h:eG P T) {o:Oper} {ty:Nat} {x:Operand} {id off e sz fz:Nat} {cs:List AV} {av:AV} (hm:(id,Ob.row e sz cs fz)∈s) (ho:o.op=.load ty x) (hx:ev t x=.ref id off)
  (hl:(match T.lay ty with | some (true,n)=>if Nat.ble (off+n) cs.length then some (AV.agg ((cs.drop off).take n)) else none | some (false,_)=>cs[off]? | none=>none)=some av) :
  sP P o t s (fun v z=>v=av∧z=s):=by
 obtain ⟨j,hj⟩:=List.getElem?_of_mem hm
 exact aC4 h ho hx hj hl
theorem jS.slc {xs ys:List AV} {n:Nat} {f:Bool} (h:WL xs ys):jS (.slc xs n f) (.slc ys n f):=by
 intro m i v hv
 rcases hv with ⟨h1,h2,h3⟩ | ⟨b,o,cap,h1,h2,h3,h4,h5⟩
 ·subst h2; cases h; exact .inl ⟨h1,rfl,h3⟩
 ·exact .inr ⟨b,o,cap,h1,h2,h3,h4,h.vc h5⟩

theorem aXG {c:Code} {Q:lZ} {j id e0 sz0:Nat} {cs:List AV} {fz:Nat} (k e sz:Nat) (hj:s[j]?=some (id,.row e0 sz0 cs fz)) (hx:cs[k]?=some (.lit (.slice none 0 0)))
  (h:∀ r,AWp P n c Q t ((r,.row e sz [] 0) :: s.set j (id,.row e0 sz0 (cs.set k (.row r 0)) fz))):AWp P n c Q t s:=by
 intro a w m i h1 h2 h3 h4
 obtain ⟨r,i',g1,g2,g3,g4⟩:=h1.adopt e sz
 have hj':((r,Ob.row e sz [] 0) :: s)[j+1]?=some (id,.row e0 sz0 cs fz):=by simpa using hj
 have hview:∀ (m':Mu) (v:Value),VR m' i' (.lit (.slice none 0 0)) v→VR m' i' (.row r 0) v:=fun _ v hv=>.inl ⟨g2,rfl,hv⟩
 -- the cell is told otherwise
 have hjlt:j<s.length:=(List.getElem?_eq_some_iff.1 hj).1
 have hjv:s[j]=(id,.row e0 sz0 cs fz):=(List.getElem?_eq_some_iff.1 hj).2
 have hids:∀ p∈(r,Ob.row e sz [] 0) :: s.set j (id,.row e0 sz0 (cs.set k (.row r 0)) fz),∃ q∈(r,Ob.row e sz [] 0) :: s,q.1=p.1:=by
  intro p hp
  rcases List.mem_cons.1 hp with rfl | hp
  ·exact ⟨_,List.mem_cons_self,rfl⟩
  ·obtain ⟨l,hl⟩:=List.getElem?_of_mem hp
   rw [List.getElem?_set] at hl
   split at hl
   ·cases hl; exact ⟨_,List.mem_cons_of_mem _ (List.mem_of_getElem? hj),rfl⟩
   ·exact ⟨p,List.mem_cons_of_mem _ (List.mem_of_getElem? hl),rfl⟩
 have hrel:nX w m i' ((r,Ob.row e sz [] 0) :: s.set j (id,.row e0 sz0 (cs.set k (.row r 0)) fz)):=by
  refine ⟨g3.mu,fun p hp=>?_,?_,g3.fin,g3.tab⟩
  ·rcases List.mem_cons.1 hp with rfl | hp
   ·exact g3.obj _ List.mem_cons_self
   ·obtain ⟨l,hl⟩:=List.getElem?_of_mem hp
    rw [List.getElem?_set] at hl
    split at hl
    ·cases hl
     rcases g3.obj _ (List.mem_of_getElem? hj') with ⟨q1,q2,q3⟩ | ⟨b,cap,vs,q1,q2,q3,q4,q5,q6,q7,q8,q9,q10⟩
     ·subst q2; simp at hx
     ·refine .inr ⟨b,cap,vs,q1,q2,q3,q4,by simpa using q5,by simpa using q6,by simpa using q7,?_,q9,q10⟩
      simp only [List.length_set]
      refine VL.set_av k q8 fun v hv=>?_
      obtain ⟨u,p1,p2⟩:=q8.get k _ hx
      rw [hv] at p1
      cases p1
      exact hview m v p2
    ·exact g3.obj p (List.mem_cons_of_mem _ (List.mem_of_getElem? hl))
  ·have hmap:((r,Ob.row e sz [] 0) :: s.set j (id,Ob.row e0 sz0 (cs.set k (.row r 0)) fz)).map (·.1)=((r,Ob.row e sz [] 0) :: s).map (·.1):=by
    simp only [List.map_cons,List.cons.injEq,true_and]
    rw [List.map_set]
    exact List.ext_getElem? fun l=>by
     rw [List.getElem?_set]
     split
     ·rename_i e1; subst e1; simp [hjlt,hjv]
     ·rfl
   have key:∀ (l:aN),l.Pairwise (Go.Am.apart i')↔(l.map (·.1)).Pairwise (fun p q=>p≠q∧∀ b,blk i' p=some b→blk i' q≠some b):=by
    intro l; rw [List.pairwise_map]; rfl
   rw [key,hmap,← key]
   exact g3.apart
 have hstep:Step w m i s w m i' ((r,Ob.row e sz [] 0) :: s.set j (id,.row e0 sz0 (cs.set k (.row r 0)) fz)) :=
  g4.trans ⟨rfl,rfl,rfl,Nat.le_refl _,Mu.le_refl _,Io.le_refl _,fun _ _ _=>rfl,fun _ _ _ _=>rfl,fun p hp=>.inl (hids p hp),fun b ⟨p,hp,e'⟩=>.inl (let ⟨q,hq,e2⟩:=hids p hp; ⟨q,hq,e2 ▸ e'⟩)⟩
 exact wp_mono (h r a w m i' hrel (fun x=>VR.mono (Mu.le_refl _) g4.io _ _ (h2 x)) h3 h4) fun e a' w' hc=>Conc.after hstep hc

theorem aXm {X:Type} {c:Code} {Q:lZ} (F:Nat→X→Prop) (L:X→List (Nat×AV)) (S:X→aN) (h0:∀ x,¬ F 0 x)
  (hs:∀ k x,F (k+1) x→AWp P n c (aVS (fun t s=>∃ k2 x' is g,k2≤k∧F k2 x'∧((L x').map (·.1)).map t=(L x').map (·.2)∧sel s is=S x'++g) Q) (aRp (L x)) (S x)) (k:Nat) (x:X) (hx:F k x)
  (ht:((L x).map (·.1)).map t=(L x).map (·.2)) (he:s=S x):AWp P n (.loop c) Q t s:=by
 subst he
 refine aXu (L x) ht (aXi k ?_)
 clear ht
 have key:∀ N k x,k≤N→F k x→aGN P n c Q N (aRp (L x)) (S x):=by
  intro N
  induction N with
  | zero =>
   intro k x hk hx
   obtain rfl:k=0:=by omega
   exact absurd hx (h0 x)
  | succ N ih =>
   intro k x hk hx
   cases k with
   | zero=>exact absurd hx (h0 x)
   | succ k =>
    refine (hs k x hx).mono ?_
    intro e t' s' hq
    cases e with
    | normal =>
     obtain ⟨k2,x',is,g,q0,q1,q2,q3⟩:=hq
     have:=ih k2 x' (by omega) q1
     cases N with
     | zero =>
      obtain rfl:k2=0:=by omega
      exact absurd q1 (h0 x')
     | succ N =>
      refine aXu (L x') q2 (bHn is q3 (aKL (iQ.drop ?_) this))
      exact List.sublist_append_left _ _
    | _=>exact hq
 exact key k k x (Nat.le_refl _) hx
end
end Go.Am
namespace Go.Am
open Go
theorem bAB {s:aN} (is:List Nat) {s':aN} (h:sel s is=s'):s.Perm s':=h ▸ vO s is
end Go.Am

/- The abstract machine, part 14: literals as writable rows, calls that only look. -/
namespace Go.Am
open Go

section
variable {P:Program} {T:TT} {n:Nat} {t:mA} {s:aN}

theorem aPB (h:eG P T) {o:Oper} {ty k e sz:Nat} {cs ds:List AV} {zs:List Value} {ps:Array (Nat×Operand)} (ho:o.op=.buildSlice ty k ps) (hk:lk T.kd ty=some (.slice e)) (hz:lk T.zero e=some zs) (hs:lk T.sz e=some sz)
  (hb:(Nat.ble (k * sz) 16777216 && Nat.beq zs.length sz && Nat.ble k 16777216 && zs.all Value.oneCell')=true)
  (hf:aGl (fun j=>some (j * sz,sz)) ((List.range (k * sz)).map fun j=>(zs.map AV.ofConst).getD (j % sz) .any) (aHc t ps)=some cs) (hl:Nat.beq cs.length (k * sz)=true) (hw:WL cs ds) :
  sP P o t s (fun v z=>∃ id,v=.row id k∧z=(id,.row e sz ds 0) :: s):=by
 intro a w m i hr hop K Q hK
 rw [ho] at hop
 simp only [Bool.and_eq_true] at hb
 have hpl:PL m i (aHc t ps) (ps.map fun (p:Nat×Operand)=>(p.1,a.eval p.2)).toList:=by
  rw [Array.toList_map]
  exact PL.of_parts _ fun k hk=>hop k (by simpa [Op.operands] using hk)
 have hle:k * sz≤16777216:=Nat.le_of_ble_eq_true hb.1.1.1
 obtain ⟨vs,h1,h2,h3⟩:=run_buildSlice h hk hz hs hle (Nat.eq_of_beq_eq_true hb.1.1.2) (fun v hv=>List.all_eq_true.1 hb.2 v hv) hpl hf w
 have hlen:=h2.eq_len
 have hcl:=Nat.eq_of_beq_eq_true hl
 have htake:vs.toArray.toList.take cs.length=vs:=by rw [hlen]; simp
 have hkm:k≤16777216:=Nat.le_of_ble_eq_true hb.1.2
 obtain ⟨id,m',i',g1,g2,g3,g4⟩:=hr.new e sz k vs.toArray cs w.drawn 0 (by simp; omega) (by unfold maxLen; omega) (by simp; omega) (Nat.zero_le _) (by rw [htake]; exact h3) (by rw [htake]; exact h2)
 unfold Oper.wp
 have hrun:(execOp a.eval o).run P w=.ok (.value (.slice (some ⟨w.heap.size,0,none⟩) k k)) (w.alloc (.cells vs.toArray e (0,0))):=by
  simp only [execOp,ho,Sem.run_bind,h1]; rfl
 rw [hrun]
 have g3':=nX.weakHead g3 hw
 refine hK _ _ (.row id k) _ m' i' ⟨id,rfl,rfl⟩ (.inr ⟨_,_,g2,Nat.le_refl _,rfl⟩) g3' ?_
 refine ⟨g4.os,g4.tape,g4.output,g4.size,g4.mu,g4.io,g4.block,g4.mu',fun p hp=>?_,fun b hb=>?_⟩
 ·rcases List.mem_cons.1 hp with rfl | hp
  ·exact g4.ids (id,.row e sz cs 0) List.mem_cons_self
  ·exact g4.ids p (List.mem_cons_of_mem _ hp)
 ·obtain ⟨p,hp,e'⟩:=hb
  rcases List.mem_cons.1 hp with rfl | hp
  ·exact g4.blks b ⟨(id,.row e sz cs 0),List.mem_cons_self,e'⟩
  ·exact g4.blks b ⟨p,List.mem_cons_of_mem _ hp,e'⟩

theorem iQ.trans {t1 t2:mA} {s1 s2:aN} (h:iQ t s t1 s1) (k:iQ t1 s1 t2 s2):iQ t s t2 s2:=by
 intro w m i a h1 h2
 obtain ⟨m1,i1,r1,r2,r3⟩:=h w m i a h1 h2
 obtain ⟨m2,i2,q1,q2,q3⟩:=k w m1 i1 a r1 r2
 exact ⟨m2,i2,q1,q2,r3.trans q3⟩
theorem iQ.refl:iQ t s t s:=fun w m i _ h1 h2=>⟨m,i,h1,h2,Step.refl w m i s⟩

end
end Go.Am

/- The abstract machine, part 17: maps by texts, texts walked rune by rune, tables of the library, bits. -/
namespace Go.Am
open Go
section
variable {P:Program} {T:TT} {n:Nat} {t:mA} {s:aN}

/-! ### blocks that hold no cells -/
theorem nX.newB {w m i} (h:nX w m i s) (bo:Go.Obj) (ob:Ob) (hOR:∀ (w':World) (m':Mu) (i':Io) (k:Nat),i.le i'→m.le m'→i' k=some (some (w.heap.size,0))→w'.heap[w.heap.size]?=some bo→OR w' m' i' k ob) :
  ∃ k i',i k=none∧i' k=some (some (w.heap.size,0))∧nX (w.alloc bo) m i' ((k,ob) :: s)∧Step w m i s (w.alloc bo) m i' ((k,ob) :: s):=by
 obtain ⟨N,hN⟩:=h.fin
 have hk:i N=none:=hN N (Nat.le_refl _)
 have hio:=Io.le_with (x:=some (w.heap.size,0)) hk
 have hself:i.with N (some (w.heap.size,0)) N=some (some (w.heap.size,0)):=Io.with_self
 have hold:∀ p∈s,p.1≠N:=fun p hp e=>by
  obtain ⟨x,hx⟩:=(h.obj p hp).id
  rw [e,hk] at hx; cases hx
 have hblk:blk (i.with N (some (w.heap.size,0))) N=some w.heap.size:=by simp [blk,hself]
 have hbold:∀ p∈s,blk (i.with N (some (w.heap.size,0))) p.1=blk i p.1:=fun p hp=>by
  obtain ⟨x,hx⟩:=(h.obj p hp).id
  exact aKn hio hx
 have hnew:(w.alloc bo).heap[w.heap.size]?=some bo:=heap_alloc_new w bo
 refine ⟨N,i.with N (some (w.heap.size,0)),hk,hself,⟨fun b o v hv=>?_,fun p hp=>?_,?_,Io.fin_with h.fin,h.tab⟩,⟨rfl,rfl,rfl,by simp,Mu.le_refl _,hio,fun b hb _=>heap_alloc_old w _ hb,fun b hb _ o=>rfl,fun p hp=>?_,fun b hb=>?_⟩⟩
 ·have:=h.mu _ _ _ hv
  rw [World.cell?_alloc_lt _ _ _ (World.block_lt_of_cell? w _ this.1)]
  exact this
 ·rcases List.mem_cons.1 hp with rfl | hp
  ·exact hOR _ _ _ _ hio (Mu.le_refl _) hself hnew
  ·exact (h.obj p hp).mono_block (Mu.le_refl _) hio (fun b hb=>heap_alloc_old w _ ((h.obj p hp).lt hb)) (fun _ _ _=>rfl)
 ·refine List.pairwise_cons.2 ⟨fun q hq=>⟨fun e=>hold q hq e.symm,fun b hb hbq=>?_⟩,?_⟩
  ·rw [hblk] at hb; cases hb
   rw [hbold q hq] at hbq
   have:=(h.obj q hq).lt hbq; omega
  ·refine h.apart.imp_of_mem ?_
   intro p q hp hq hpq
   exact ⟨hpq.1,fun b hb=>by rw [hbold p hp] at hb; rw [hbold q hq]; exact hpq.2 b hb⟩
 ·rcases List.mem_cons.1 hp with rfl | hp
  ·exact .inr hk
  ·exact .inl ⟨p,hp,rfl⟩
 ·obtain ⟨p,hp,e'⟩:=hb
  rcases List.mem_cons.1 hp with rfl | hp
  ·rw [hblk] at e'; cases e'; exact .inr (Nat.le_refl _)
  ·rw [hbold p hp] at e'; exact .inl ⟨p,hp,e'⟩

def aDu (w:World) (b:Nat) (o:Go.Obj):World:={ w with heap:=w.heap.setIfInBounds b o }

theorem nX.changeB {w m i} (h:nX w m i s) {j id:Nat} {ob ob':Ob} (hj:s[j]?=some (id,ob)) {b c:Nat} (hi:i id=some (some (b,c))) {bo bo':Go.Obj} (hb:w.heap[b]?=some bo) (hno:∀ vs e f,bo≠.cells vs e f)
  (hOR:∀ w':World,w'.heap[b]?=some bo'→OR w' m i id ob') :
  nX (aDu w b bo') m i (s.set j (id,ob'))∧Step w m i s (aDu w b bo') m i (s.set j (id,ob')):=by
 have hjlt:j<s.length:=(List.getElem?_eq_some_iff.1 hj).1
 have hjv:s[j]=(id,ob):=(List.getElem?_eq_some_iff.1 hj).2
 have hblk:blk i id=some b:=by simp [blk,hi]
 have hblt:b<w.heap.size:=(Array.getElem?_eq_some_iff.1 hb).1
 have hself:(aDu w b bo').heap[b]?=some bo':=by simp [aDu,hblt]
 have hoth:∀ b1,b1≠b→(aDu w b bo').heap[b1]?=w.heap[b1]?:=fun b1 hne=>by simp only [aDu]; rw [Array.getElem?_setIfInBounds_ne (Ne.symm hne)]
 have hm0:∀ o v,m b o=some v→False:=fun o v hv=>by
  have:=(h.mu _ _ _ hv).1
  unfold World.cell? at this
  simp only [hb] at this
  split at this
  ·rename_i vs e f heq; exact hno vs e f (Option.some.inj heq)
  ·cases this
 have hids:∀ p∈s.set j (id,ob'),∃ q∈s,q.1=p.1:=by
  intro p hp
  obtain ⟨k,hk⟩:=List.getElem?_of_mem hp
  rw [List.getElem?_set] at hk
  split at hk
  ·rename_i e1; subst e1
   cases hk; exact ⟨_,List.mem_of_getElem? hj,rfl⟩
  ·exact ⟨p,List.mem_of_getElem? hk,rfl⟩
 have hap:∀ k (hk:k<s.length),k≠j→blk i s[k].1≠some b:=by
  intro k hk hne
  have hp:=List.pairwise_iff_getElem.1 h.apart
  rcases Nat.lt_or_gt_of_ne hne with hlt | hlt
  ·have:=hp k j hk hjlt hlt
   rw [hjv] at this
   intro e
   exact this.2 b e hblk
  ·have:=hp j k hjlt hk hlt
   rw [hjv] at this
   exact this.2 b hblk
 refine ⟨⟨fun b1 o v hv=>?_,fun p hp=>?_,?_,h.fin,h.tab⟩,⟨rfl,rfl,rfl,by simp [aDu],Mu.le_refl _,Io.le_refl _,fun c hc hno'=>?_,fun c _ _ _=>rfl,fun p hp=>.inl (hids p hp),fun c hc=>.inl ?_⟩⟩
 ·have h0:=h.mu _ _ _ hv
  refine ⟨?_,h0.2⟩
  by_cases e1:b1=b
  ·subst e1; exact (hm0 o v hv).elim
  ·rw [← h0.1]; simp only [World.cell?,hoth b1 e1]
 ·obtain ⟨k,hk⟩:=List.getElem?_of_mem hp
  rw [List.getElem?_set] at hk
  split at hk
  ·rename_i e1; subst e1
   cases hk; exact hOR _ hself
  ·rename_i hne
   have hmem:=List.mem_of_getElem? hk
   have hklt:k<s.length:=(List.getElem?_eq_some_iff.1 hk).1
   have hkv:s[k]=p:=(List.getElem?_eq_some_iff.1 hk).2
   refine (h.obj p hmem).mono_block (Mu.le_refl _) (Io.le_refl _) (fun c hc=>?_) (fun _ _ _=>rfl)
   refine hoth c fun e1=>?_
   subst e1
   exact hap k hklt (Ne.symm hne) (by rw [hkv]; exact hc)
 ·have hmap:(s.set j (id,ob')).map (·.1)=s.map (·.1):=by
   rw [List.map_set]
   exact List.ext_getElem? fun k=>by
    rw [List.getElem?_set]
    split
    ·rename_i e1; subst e1; simp [hjlt,hjv]
    ·rfl
  have key:∀ (l:aN),l.Pairwise (Go.Am.apart i)↔(l.map (·.1)).Pairwise (fun p q=>p≠q∧∀ b,blk i p=some b→blk i q≠some b):=by
   intro l; rw [List.pairwise_map]; rfl
  rw [key,hmap,← key]
  exact h.apart
 ·refine hoth c fun e1=>?_
  subst e1
  exact hno' ⟨_,List.mem_of_getElem? hj,hblk⟩
 ·obtain ⟨p,hp,hc⟩:=hc
  obtain ⟨q,hq,he⟩:=hids p hp
  exact ⟨q,hq,by rw [he]; exact hc⟩

/-! ### texts, rune by rune -/
theorem bCf (h:eG P T) {o:Oper} {ty:Nat} {x:Operand} {l:List UInt8} (ho:o.op=.range ty x) (hk:lk T.kd ty=some .string) (hx:ev t x=.s l) :
  sP P o t s (fun v z=>∃ k,v=.it k∧z=(k,.iter ⟨l.toArray⟩ 0) :: s):=by
 intro a w m i hr hop K Q hK
 rw [ho] at hop
 have v1:=yX (x:=x) hop (by simp [Op.operands])
 rw [hx] at v1
 have v1':a.eval x=.string ⟨l.toArray⟩:=v1
 obtain ⟨k,i',g1,g2,g3,g4⟩:=hr.newB (.stringIter ⟨l.toArray⟩ 0) (.iter ⟨l.toArray⟩ 0) (fun w' m' i' k _ _ h1 h2=>⟨_,_,h1,h2⟩)
 unfold Oper.wp
 have hrun:(execOp a.eval o).run P w=.ok (.value (.pointer (some ⟨w.heap.size,0,none⟩))) (w.alloc (.stringIter ⟨l.toArray⟩ 0)):=by
  simp [execOp,ho,Instr.range,v1',run_underlying (isString h hk)]
 rw [hrun]
 exact hK _ _ (.it k) _ m i' ⟨k,rfl,rfl⟩ ⟨_,_,g2,rfl⟩ g3 g4

theorem bDV {o:Oper} {x:Operand} {id j:Nat} {b:ByteArray} {p:Nat} (ho:o.op=.next x true) (hx:ev t x=.it id) (hj:s[j]?=some (id,.iter b p)) :
  sP P o t s (fun v z=>(p<b.size∧v=.tup [.b true,.i (p:Nat),.lit (.int .i32 ((Utf8.decode b p).1:Nat))]∧z=s.set j (id,.iter b (p+(Utf8.decode b p).2)))∨(¬ p<b.size∧v=.tup [.b false]∧z=s)):=by
 intro a w m i hr hop K Q hK
 rw [ho] at hop
 have v1:=yX (x:=x) hop (by simp [Op.operands])
 rw [hx] at v1
 obtain ⟨bk,c,hi,hv⟩:=v1
 have ho1:=hr.obj _ (List.mem_of_getElem? hj)
 obtain ⟨bk',c',hi',hb⟩:=ho1
 simp only at hi'
 rw [hi] at hi'
 cases hi'
 have hget:(getObj bk).run P w=.ok (.stringIter b p) w:=by simp [getObj,Sem.run,hb]
 unfold Oper.wp
 by_cases hp:p<b.size
 ·have hset:∀ ob,(setObj bk ob).run P w=.ok () (aDu w bk ob):=fun ob=>by simp [setObj,Sem.run,hb,aDu]
  have hrun:(execOp a.eval o).run P w=.ok (.value (.tuple #[.bool true,.int .i64 (p:Nat),.int .i32 ((Utf8.decode b p).1:Nat)])) (aDu w bk (.stringIter b (p+(Utf8.decode b p).2))):=by
   simp only [execOp,ho,Instr.next,hv,Sem.run_bind,hget,Result.andThen_ok]
   rw [if_pos hp]
   simp only [Sem.run_bind,hset,Result.andThen_ok]
   rfl
  rw [hrun]
  obtain ⟨r1,r2⟩:=hr.changeB (ob':=.iter b (p+(Utf8.decode b p).2)) (bo':=.stringIter b (p+(Utf8.decode b p).2)) hj hi hb (by simp) (fun w' hw'=>⟨_,_,hi,hw'⟩)
  exact hK _ _ _ _ m i (.inl ⟨hp,rfl,rfl⟩) ⟨_,rfl,_,_,rfl,rfl,_,_,rfl,rfl,_,_,rfl,rfl,rfl⟩ r1 r2
 ·have hrun:(execOp a.eval o).run P w=.ok (.value (.tuple #[.bool false])) w:=by
   simp only [execOp,ho,Instr.next,hv,Sem.run_bind,hget,Result.andThen_ok]
   rw [if_neg hp]
   rfl
  rw [hrun]
  exact hK _ _ _ _ m i (.inr ⟨hp,rfl,rfl⟩) ⟨_,rfl,_,_,rfl,rfl,rfl⟩ hr (Step.refl _ _ _ _)

/-! ### tables -/
theorem bAs (h:eG P T) {o:Oper} {ty e len sz g:Nat} {y:Operand} {vs:List Value} {k:IntKind} {j:Int} (ho:o.op=.indexAddr ty (.global g) y) (ha:lk T.arr ty=some (len,e)) (hsz:lk T.sz e=some sz)
  (hy:ev t y=.lit (.int k j)) (hg:lkN tabs g=some vs) (h0:0≤j) (h1:j<len):sP P o t s (fun v z=>v=.ptr ((vs.map AV.lit).drop (j.toNat * sz))∧z=s):=by
 refine fM fun a w m i hr hop=>?_
 rw [ho] at hop
 have v2:=yX (x:=y) hop (by simp [Op.operands])
 rw [hy] at v2
 have v2':a.eval y=.int k j:=v2
 have hvc:VC m i (vs.map AV.lit) g 0:=VC.of_list (VL.consts vs) fun q v hq=>by
  rw [Nat.zero_add]
  exact hr.tab g q v (by unfold Tab; rw [hg]; exact hq)
 obtain ⟨i0,hi,hs⟩:=h.size hsz
 have hu:=h.arr' ha
 refine ⟨.pointer (some ⟨g,0+j.toNat * sz,none⟩),?_,_,_,rfl,hvc.drop _⟩
 have hga:a.eval (.global g)=.pointer (some ⟨g,0,none⟩):=rfl
 simp [execOp,ho,Instr.indexAt,v2',asIntOf,run_underlying hu,hga,Instr.sureAddr,h0,h1,sizeOf,typeInfo,hi,hs,add_lit]

/-! ### bits -/
def pW (op:BinOp) (k:IntKind) (a b:Int):Option Int:=if a≠a then none else match op with
 | .and=>some (k.wrap ((BitVec.ofInt k.bits a &&& BitVec.ofInt k.bits b).toNat:Nat))
 | .or=>some (k.wrap ((BitVec.ofInt k.bits a ||| BitVec.ofInt k.bits b).toNat:Nat))
 | .xor=>some (k.wrap ((BitVec.ofInt k.bits a ^^^ BitVec.ofInt k.bits b).toNat:Nat))
 | .andNot=>some (k.wrap ((BitVec.ofInt k.bits a &&& ~~~(BitVec.ofInt k.bits b)).toNat:Nat))
 | _=>none
def shI (op:BinOp) (k:IntKind) (a n:Int):Option Int:=if n<0∨a≠a then none else match op with
 | .shl=>some (k.wrap (a * 2 ^ (min n.toNat k.bits)))
 | .shr=>some (a.fdiv (2 ^ (min n.toNat k.bits)))
 | _=>none

theorem bEA {o:Oper} {op:BinOp} {ty yt:Nat} {x y:Operand} {k:IntKind} {a b v:Int} (hv:pW op k a b=some v) (ho:o.op=.binOp op ty x y yt) (hx:ev t x=.lit (.int k a)) (hy:ev t y=.lit (.int k b)) :
  sP P o t s (fun z s'=>z=.lit (.int k v)∧s'=s):=by
 refine fM fun act w m i hr hop=>?_
 rw [ho] at hop
 have v1:=yX (x:=x) hop (by simp [Op.operands])
 have v2:=yX (x:=y) hop (by simp [Op.operands])
 rw [hx] at v1; rw [hy] at v2
 have v1':act.eval x=.int k a:=v1
 have v2':act.eval y=.int k b:=v2
 refine ⟨.int k v,?_,rfl⟩
 have hg:=aGw (P:=P) (op:=op) (ty:=ty) (x:=x) (y:=y) (b:=.int k b) (show ∀ cs,Value.int k a≠.agg cs from by simp) (by simp) w
 simp only [execOp,ho,v1',v2',Sem.run_bind,hg,Result.andThen_ok]
 unfold pW at hv
 rw [if_neg (by simp)] at hv
 cases op <;> simp only [Option.some.injEq] at hv <;> first | (cases hv; done) | (subst hv; simp [binOp,Op.intBits]; done)

theorem bBH {o:Oper} {op:BinOp} {ty yt:Nat} {x y:Operand} {k k2:IntKind} {a b v:Int} (hv:shI op k a b=some v) (ho:o.op=.binOp op ty x y yt) (hx:ev t x=.lit (.int k a)) (hy:ev t y=.lit (.int k2 b)) :
  sP P o t s (fun z s'=>z=.lit (.int k v)∧s'=s):=by
 refine fM fun act w m i hr hop=>?_
 rw [ho] at hop
 have v1:=yX (x:=x) hop (by simp [Op.operands])
 have v2:=yX (x:=y) hop (by simp [Op.operands])
 rw [hx] at v1; rw [hy] at v2
 have v1':act.eval x=.int k a:=v1
 have v2':act.eval y=.int k2 b:=v2
 refine ⟨.int k v,?_,rfl⟩
 have hg:=aGw (P:=P) (op:=op) (ty:=ty) (x:=x) (y:=y) (b:=.int k2 b) (show ∀ cs,Value.int k a≠.agg cs from by simp) (by simp) w
 simp only [execOp,ho,v1',v2',Sem.run_bind,hg,Result.andThen_ok]
 unfold shI at hv
 split at hv
 ·cases hv
 ·rename_i hn0
  have hn:¬ b<0:=fun h=>hn0 (.inl h)
  cases op <;> simp only [Option.some.injEq] at hv <;> first | (cases hv; done) | (subst hv; simp [binOp,Op.shift,hn]; done)
end
end Go.Am

/- The abstract machine, part 18: maps by texts. -/
namespace Go.Am
open Go

def jD {α:Type}:List (List UInt8×α)→List UInt8→Option α
 | [],_=>none
 | p :: l,k=>if decide (p.1=k)=true then some p.2 else jD l k
def aEE {α:Type}:List (List UInt8×α)→List UInt8→α→List (List UInt8×α)
 | [],k,v=>[(k,v)]
 | p :: l,k,v=>if decide (p.1=k)=true then (k,v) :: l else p :: aEE l k v
def aUI {α:Type} (g:α→AV) (l:List (List UInt8×α)):List (Value×AV):=l.map fun p=>(.string ⟨p.1.toArray⟩,g p.2)

section
variable {P:Program} {T:TT} {n:Nat} {t:mA} {s:aN}

theorem aXX {o:Oper} {ty:Nat} (ho:o.op=.makeMap ty none):sP P o t s (fun v z=>∃ k,v=.mp k∧z=(k,.map []) :: s):=by
 intro a w m i hr hop K Q hK
 obtain ⟨k,i',g1,g2,g3,g4⟩:=hr.newB (.map #[] 0) (.map []) (fun w' m' i' k _ _ h1 h2=>⟨_,_,#[],0,h1,h2,rfl⟩)
 unfold Oper.wp
 have hrun:(execOp a.eval o).run P w=.ok (.value (.map (some w.heap.size))) (w.alloc (.map #[] 0)):=by
  have hmk:(Instr.makeMap ty none).run P w=.ok (.map (some w.heap.size)) (w.alloc (.map #[] 0)):=rfl
  simp only [execOp,ho,Option.map_none,Sem.run_bind,hmk]
  rfl
 rw [hrun]
 exact hK _ _ (.mp k) _ m i' ⟨k,rfl,rfl⟩ ⟨_,_,g2,rfl⟩ g3 g4

theorem aWK (a b:List UInt8):((⟨a.toArray⟩:ByteArray) == ⟨b.toArray⟩)=decide (a=b):=by
 by_cases h:a=b
 ·subst h; simp [MapKept.bytes_beq]
 ·have:(⟨a.toArray⟩:ByteArray)≠⟨b.toArray⟩:=fun e=>h (by injection e with e; simpa using e)
  rw [decide_eq_false h]
  cases hb:((⟨a.toArray⟩:ByteArray) == ⟨b.toArray⟩) with
  | false=>rfl
  | true=>exact absurd ((MapKept.bytes_beq _ _).1 hb) this

theorem aIY {α:Type} {g:α→AV} {m:Mu} {i:Io} (k:List UInt8):∀ (l:List (List UInt8×α)) (ces:List MapEntry) (j:Nat),EL m i (aUI g l) ces →
  (jD l k=none∧Instr.findNow .string (.string ⟨k.toArray⟩) ces j=some none∧∀ v:α,EL m i (aUI g l) ces→aEE l k v=l++[(k,v)]) ∨
  ∃ (x:α) (e:MapEntry) (d:Nat),jD l k=some x∧Instr.findNow .string (.string ⟨k.toArray⟩) ces j=some (some (j+d,e.val))∧VR m i (g x) e.val∧ces[d]?=some e∧e.key=.string ⟨k.toArray⟩ ∧
   ∀ v:α,aEE l k v=l.set d (k,v)∧d<l.length
 | [],ces,j,h=>by
  simp only [aUI,List.map_nil,EL] at h
  subst h
  exact .inl ⟨rfl,rfl,fun v _=>rfl⟩
 | p :: l,ces,j,h=>by
  simp only [aUI,List.map_cons,EL] at h
  obtain ⟨e,l',rfl,h1,h2,h3⟩:=h
  by_cases hk:p.1=k
  ·refine .inr ⟨p.2,e,0,by simp [jD,hk],?_,h2,rfl,by rw [h1,hk],fun v=>⟨by simp [aEE,hk],by simp⟩⟩
   simp only [Instr.findNow,h1,Instr.sameNow,aWK,hk,decide_true,Nat.add_zero]
  ·have hne:decide (k=p.1)=false:=by simpa using fun e=>hk e.symm
   rcases aIY k l l' (j+1) h3 with ⟨q1,q2,q3⟩ | ⟨x,e',d,q1,q2,q3,q4,q5,q6⟩
   ·refine .inl ⟨by simp [jD,hk,q1],?_,fun v _=>by simp [aEE,hk,q3 v h3]⟩
    simp only [Instr.findNow,h1,Instr.sameNow,aWK,hne]
    exact q2
   ·refine .inr ⟨x,e',d+1,by simp [jD,hk,q1],?_,q3,by simpa using q4,q5,fun v=>⟨by simp [aEE,hk,(q6 v).1],by simp; exact (q6 v).2⟩⟩
    simp only [Instr.findNow,h1,Instr.sameNow,aWK,hne]
    rw [q2,show j+1+d=j+(d+1) from by omega]

theorem aLJ (k:List UInt8):MapKept.IsKey .string (.string ⟨k.toArray⟩):=trivial

theorem aYB {α:Type} (h:eG P T) {o:Oper} {ty kt et id:Nat} {x y:Operand} {g:α→AV} {l:List (List UInt8×α)} {k:List UInt8} {z0:α} {zv:Value} (ho:o.op=.lookup ty x y false) (hmp:lk T.mp ty=some (kt,et)) (hkt:lk T.kd kt=some .string)
  (hz:lk T.zv et=some zv) (hg:jS (.lit zv) (g z0)) (hx:ev t x=.mp id) (hy:ev t y=.s k) (hm:(id,Ob.map (aUI g l))∈s) :
  sP P o t s (fun v z=>v=g ((jD l k).getD z0)∧z=s):=by
 refine fM fun a w m i hr hop=>?_
 rw [ho] at hop
 have v1:=yX (x:=x) hop (by simp [Op.operands])
 have v2:=yX (x:=y) hop (by simp [Op.operands])
 rw [hx] at v1; rw [hy] at v2
 have v2':a.eval y=.string ⟨k.toArray⟩:=v2
 obtain ⟨b,c,hi,hv⟩:=v1
 obtain ⟨b',c',ces,clock,hi',hb,hel⟩:=hr.obj _ hm
 simp only at hi'
 rw [hi] at hi'
 cases hi'
 have hu:=h.mp' hmp
 have hks:=isString h hkt
 have hck:=MapKept.run_checkKey (P:=P) (w:=w) hks (aLJ k) ces.isEmpty 9999
 rcases aIY (g:=g) k l ces.toList 0 hel with ⟨q1,q2,_⟩ | ⟨x0,e,d,q1,q2,q3,q4,q5,q6⟩
 ·have hf:=MapKept.run_findKey (P:=P) (w:=w) hks q2
  have r1:=h.zv' hz w
  refine ⟨zv,?_,by rw [q1]; exact hg _ _ _ rfl⟩
  simp [execOp,ho,Instr.lookup,hv,v2',run_underlying hu,MapKept.run_getObj_map hb,hck,hf,r1]
 ·have hf:=MapKept.run_findKey (P:=P) (w:=w) hks q2
  refine ⟨e.val,?_,by rw [q1]; exact q3⟩
  simp [execOp,ho,Instr.lookup,hv,v2',run_underlying hu,MapKept.run_getObj_map hb,hck,hf]

theorem EL.push {m:Mu} {i:Io} {k:Value} {c:AV} {v:Value} {b:Nat} (hv:VR m i c v):∀ {es:List (Value×AV)} {ces:List MapEntry},EL m i es ces→EL m i (es++[(k,c)]) (ces++[⟨k,v,b⟩])
 | [],ces,h=>by simp only [EL] at h; subst h; exact ⟨_,_,rfl,rfl,hv,rfl⟩
 | p :: es,ces,⟨e,l',h1,h2,h3,h4⟩=>by subst h1; exact ⟨e,_,rfl,h2,h3,EL.push hv h4⟩
theorem EL.set {m:Mu} {i:Io} {k:Value} {c:AV} {v:Value} (hv:VR m i c v):∀ {es:List (Value×AV)} {ces:List MapEntry} (d:Nat) {e:MapEntry},EL m i es ces→ces[d]?=some e→e.key=k→EL m i (es.set d (k,c)) (ces.set d { e with key:=k,val:=v })
 | [],ces,d,e,h,hd,_=>by simp only [EL] at h; subst h; simp at hd
 | p :: es,ces,0,e,⟨e',l',h1,h2,h3,h4⟩,hd,hk=>by subst h1; simp at hd; subst hd; exact ⟨_,_,rfl,rfl,hv,h4⟩
 | p :: es,ces,d+1,e,⟨e',l',h1,h2,h3,h4⟩,hd,hk=>by subst h1; simp at hd; exact ⟨e',_,rfl,h2,h3,EL.set hv d h4 hd hk⟩

theorem aUJ {α:Type} (h:eG P T) {o:Oper} {ty kt et id j:Nat} {x y z:Operand} {g:α→AV} {l:List (List UInt8×α)} {k:List UInt8} {v:α} (ho:o.op=.mapUpdate ty x y z) (hmp:lk T.mp ty=some (kt,et)) (hkt:lk T.kd kt=some .string)
  (hx:ev t x=.mp id) (hy:ev t y=.s k) (hz:ev t z=g v) (hj:s[j]?=some (id,Ob.map (aUI g l))) :
  sP P o t s (fun u w=>u=.any∧w=s.set j (id,.map (aUI g (aEE l k v)))):=by
 refine aY5 fun a w m i hr hop=>?_
 rw [ho] at hop
 have v1:=yX (x:=x) hop (by simp [Op.operands])
 have v2:=yX (x:=y) hop (by simp [Op.operands])
 have v3:=yX (x:=z) hop (by simp [Op.operands])
 rw [hx] at v1; rw [hy] at v2; rw [hz] at v3
 have v2':a.eval y=.string ⟨k.toArray⟩:=v2
 obtain ⟨b,c,hi,hv⟩:=v1
 obtain ⟨b',c',ces,clock,hi',hb,hel⟩:=hr.obj _ (List.mem_of_getElem? hj)
 simp only at hi'
 rw [hi] at hi'
 cases hi'
 have hu:=h.mp' hmp
 have hks:=isString h hkt
 have hck:=MapKept.run_checkKey (P:=P) (w:=w) hks (aLJ k) false 9999
 rcases aIY (g:=g) k l ces.toList 0 hel with ⟨q1,q2,q3⟩ | ⟨x0,e,d,q1,q2,q3,q4,q5,q6⟩
 ·have hf:=MapKept.run_findKey (P:=P) (w:=w) hks q2
  obtain ⟨r1,r2⟩:=hr.changeB (ob':=.map (aUI g (aEE l k v))) (bo':=.map (ces.push { key:=.string ⟨k.toArray⟩,val:=a.eval z,born:=clock }) (clock+1)) hj hi hb (by simp)
   (fun w' hw'=>⟨_,_,_,_,hi,hw',by
    rw [q3 v hel]
    have:=EL.push (k:=.string ⟨k.toArray⟩) (b:=clock) v3 hel
    simpa [aUI] using this⟩)
  refine ⟨_,m,i,?_,r1,r2⟩
  simp [execOp,ho,Instr.mapUpdate,hv,v2',run_underlying hu,MapKept.run_getObj_map hb,hck,hf,MapKept.run_setObj_map _ hb,aDu]
 ·have hf:=MapKept.run_findKey (P:=P) (w:=w) hks q2
  have hst:=MapKept.run_keyThatStays (P:=P) (w:=w) (d:=.string) (k:=.string ⟨k.toArray⟩) (aLJ k)
  have hce:ces[d]?=some e:=by rw [← Array.getElem?_toList]; exact q4
  obtain ⟨r1,r2⟩:=hr.changeB (ob':=.map (aUI g (aEE l k v))) (bo':=.map (ces.modify d fun e=>{ e with key:=.string ⟨k.toArray⟩,val:=a.eval z }) clock) hj hi hb (by simp)
   (fun w' hw'=>⟨_,_,_,_,hi,hw',by
    rw [(q6 v).1]
    have:=EL.set (k:=.string ⟨k.toArray⟩) v3 d hel q4 q5
    have e1:(ces.modify d fun e=>{ e with key:=.string ⟨k.toArray⟩,val:=a.eval z }).toList=ces.toList.set d { e with key:=.string ⟨k.toArray⟩,val:=a.eval z }:=by
     apply List.ext_getElem?
     intro q
     rw [Array.getElem?_toList,Array.getElem?_modify,List.getElem?_set]
     by_cases hq:d=q
     ·subst hq
      have hlt:d<ces.toList.length:=(List.getElem?_eq_some_iff.1 q4).1
      have hlt2:d<ces.size:=by simpa using hlt
      have hge:ces[d]=e:=by rw [Array.getElem?_eq_getElem hlt2] at hce; exact Option.some.inj hce
      simp [hlt2,hge]
     ·simp [hq]
    rw [e1]
    simpa [aUI,List.map_set] using this⟩)
  refine ⟨_,m,i,?_,r1,r2⟩
  simp only [Nat.zero_add] at hf
  simp [execOp,ho,Instr.mapUpdate,hv,v2',run_underlying hu,MapKept.run_getObj_map hb,hck,hf,hce,q5,hst,MapKept.run_setObj_map _ hb,aDu]
end
end Go.Am

