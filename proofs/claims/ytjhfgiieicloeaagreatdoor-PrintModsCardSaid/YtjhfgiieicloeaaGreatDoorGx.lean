/- Joined texts: SxJ, SxB. -/
import Derived.Test.YtjhfgiieicloeaaGreatDoorGd
import Derived.Shelf.Strings.OnBuilder
/- strings.Join by the library's own contract: what it comes to, as a signature. -/
namespace Go.Sx
open Go Go.Am Go.RowKit
variable {P:Program}

theorem bCb {w w':World} {m:Mu} {i:Io} {s:aN} (h:nX w m i s) (hb:Below w.heap.size w w'):nX w' m i s∧Step w m i s w' m i s:=by
 refine ⟨⟨fun b o v hv=>?_,fun p hp=>(h.obj p hp).mono_block (Mu.le_refl _) (Io.le_refl _) (fun b hbb=>hb.block b ((h.obj p hp).lt hbb)) (fun _ _ _=>rfl),h.apart,h.fin,h.tab⟩,
  ⟨hb.os,hb.tape,hb.output,hb.size,Mu.le_refl _,Io.le_refl _,fun b hlt _=>hb.block b hlt,fun _ _ _ _=>rfl,fun p hp=>.inl ⟨p,hp,rfl⟩,fun _ h=>.inl h⟩⟩
 have h1:=h.mu _ _ _ hv
 have hlt:=World.block_lt_of_cell? w _ h1.1
 refine ⟨?_,h1.2⟩
 rw [← h1.1]
 unfold World.cell?
 simp only [hb.block b hlt]

theorem bBd {m:Mu} {i:Io} {b:Nat}:∀ (xs:List (List UInt8)) (o:Nat),VC m i (xs.flatMap (Ty.cells .str)) b o→∀ (j:Nat) x,xs[j]?=some x→m b (o+j)=some (.string ⟨x.toArray⟩)
 | [],_,_,j,x,hx=>by simp at hx
 | y :: ys,o,h,j,x,hx=>by
  have h:VC m i (.lit (.string ⟨y.toArray⟩) :: ys.flatMap (Ty.cells .str)) b o:=by
   rw [List.flatMap_cons] at h; exact h
  obtain ⟨⟨v,h1,h2⟩,h3⟩:=h
  cases j with
  | zero =>
   have e:y=x:=by simpa using hx
   subst e
   have:v=.string ⟨y.toArray⟩:=h2
   rw [Nat.add_zero,h1,this]
  | succ j =>
   have:=bBd ys (o+1) h3 j x (by simpa using hx)
   rw [show o+(j+1)=o+1+j by omega]; exact this

theorem aZZ {fid:Nat} {f:Nat→List (List UInt8)→List UInt8→Option (List UInt8)} {K:Nat} (hfn:∃ fn,P.funcs[fid]?=some fn∧fn.body.isNone=false∧(fn.name == "runtime.NumGoroutine")=false)
  (hf:∀ l sep y,f K l sep=some y→y=Lib.join l sep∧(Lib.join l sep).length≤140737488355328∧l.length≤140737488355328)
  (h0:∀ (a:Option Addr) (c:Nat) (sep:ByteArray) (w:World),Calls P fid #[.slice a 0 c,.string sep] w fun e w'=>e=.returned (.string .empty)∧w'=w)
  (h1:∀ (bk o c:Nat) (xs:List ByteArray) (sep:ByteArray) (w:World),(∀ (j:Nat) x,xs[j]?=some x→w.cell? ⟨bk,o+j,none⟩=some (.string x))→bk<w.heap.size→xs.length≤140737488355328→xs.length≤c →
   (Lib.join (xs.map (·.data.toList)) sep.data.toList).length≤140737488355328 →
   Calls P fid #[.slice (some ⟨bk,o,none⟩) xs.length c,.string sep] w fun e w'=>e=.returned (.string ⟨(Lib.join (xs.map (·.data.toList)) sep.data.toList).toArray⟩)∧Below w.heap.size w w') :
  aE P { fid:=fid,Γ:=[(.list false .str),.str],args:=[(.var 0),(.var 1)],sto:=[],nk:=0,nr:=0,Δ:=[.str],res:=(.var 0),sto':=[],nk':=0,f:=fun k x=>f k x.1 x.2 } K:=by
 refine ⟨hfn,fun ids x y hy=>?_⟩
 intro w m i cargs hr hv
 obtain ⟨v1,l1,rfl,g1,v2,l2,rfl,g2,rfl⟩:=hv
 have g1:VR m i (.slc (x.1.flatMap (Ty.cells .str)) x.1.length false) v1:=g1
 have g2:v2=.string ⟨x.2.toArray⟩:=g2
 subst g2
 obtain ⟨e1,e2,e3⟩:=hf _ _ _ hy
 obtain ⟨l,sep⟩:=x
 simp only at g1 e1 e2 e3 ⊢
 have none':∀ (a:Option Addr) (c:Nat),l=[]→v1=.slice a 0 c→Calls P fid [v1,.string ⟨sep.toArray⟩].toArray w fun e w'=>∃ v av s' m' i',e=.returned v∧(∃ ids',(∀ k,k<0→ids' k=ids k)∧av=aL (hQ [.str] y) ids' (.var 0)∧s'=bL [] (hQ [.str] y) ids')∧VR m' i' av v∧nX w' m' i' s'∧Step w m i [] w' m' i' s':=by
  intro a c hl ha
  subst hl ha
  refine (h0 a c ⟨sep.toArray⟩ w).mono ?_
  rintro e w' ⟨rfl,rfl⟩
  refine ⟨_,_,_,m,i,rfl,⟨ids,fun _ _=>rfl,rfl,rfl⟩,?_,hr,Step.refl _ _ _ _⟩
  show Value.string .empty=.string ⟨(y:List UInt8).toArray⟩
  rw [e1]; rfl
 rcases g1 with ⟨hn,_,a,ha⟩ | ⟨b,o,cap,rfl,q2,q3,_,q5⟩
 ·exact none' a 0 (List.length_eq_zero_iff.1 hn) (by rw [ha])
 ·by_cases hl:l=[]
  ·exact none' (some ⟨b,o,none⟩) cap hl (by rw [hl]; rfl)
  have hv:=bBd l o q5
  have hlen:(l.map fun s=>(⟨s.toArray⟩:ByteArray)).length=l.length:=by simp
  have hb:(l.map fun s=>(⟨s.toArray⟩:ByteArray)).map (·.data.toList)=l:=by
   rw [List.map_map]
   have:((fun x:ByteArray=>x.data.toList)∘fun s:List UInt8=>(⟨s.toArray⟩:ByteArray))=id:=by funext s; simp
   rw [this,List.map_id]
  have hcell:∀ (j:Nat) x,(l.map fun s=>(⟨s.toArray⟩:ByteArray))[j]?=some x→w.cell? ⟨b,o+j,none⟩=some (.string x):=by
   intro j x hx
   rw [List.getElem?_map] at hx
   cases hj:l[j]? with
   | none=>rw [hj] at hx; cases hx
   | some z =>
    rw [hj] at hx
    cases hx
    exact (hr.mu _ _ _ (hv j z hj)).1
  have hlt:b<w.heap.size:=by
   obtain ⟨z,zs,hz⟩:∃ z zs,l=z :: zs:=by cases l with
    | nil=>exact absurd rfl hl
    | cons z zs=>exact ⟨z,zs,rfl⟩
   exact World.block_lt_of_cell? w _ (hr.mu _ _ _ (hv 0 z (by rw [hz]; rfl))).1
  have key:=h1 b o cap (l.map fun s=>(⟨s.toArray⟩:ByteArray)) ⟨sep.toArray⟩ w hcell hlt (by omega) (by omega) (by rw [hb]; exact e2)
  rw [hb,hlen] at key
  refine key.mono ?_
  rintro e w' ⟨rfl,hbel⟩
  obtain ⟨r1,r2⟩:=bCb hr hbel
  refine ⟨_,_,_,m,i,rfl,⟨ids,fun _ _=>rfl,rfl,rfl⟩,?_,r1,r2⟩
  show Value.string _=.string ⟨(y:List UInt8).toArray⟩
  rw [e1]
end Go.Sx

/- A text's builder as two objects: itself, and the row of its bytes: what its methods do. -/
namespace Go.Sx
open Go Go.Am Go.RowKit Go.Shelf Go.Proofs Go.Lib
variable {P:Program} {ρ:Ren}
def yQ (l:List UInt8):List AV:=l.map fun b=>.lit (.int .u8 (b.toNat:Int))
theorem aYS (a b:List UInt8):yQ (a++b)=yQ a++yQ b:=by simp [yQ]
theorem aC7 (l:List UInt8):(yQ l).length=l.length:=by simp [yQ]
theorem aSN {m:Mu} {i:Io}:∀ l:List UInt8,VL m i (yQ l) (strCells ⟨l.toArray⟩)
 | []=>rfl
 | _b :: l=>⟨_,_,rfl,rfl,aSN l⟩
theorem bBo {m:Mu} {i:Io}:∀ (l:List UInt8) (vs:List Value),VL m i (yQ l) vs→vs=strCells ⟨l.toArray⟩
 | [],vs,h=>h
 | b :: l,vs,⟨v,vs',h1,h2,h3⟩=>by
  rw [h1,show v=.int .u8 (b.toNat:Int) from h2,bBo l vs' h3]; rfl
theorem aTD (l:List UInt8):pY (strCells ⟨l.toArray⟩):=fun v hv=>by
 obtain ⟨b,_,rfl⟩:=List.mem_map.1 (show v∈(⟨l.toArray⟩:ByteArray).data.toList.map fun b=>Value.int .u8 b.toNat from hv)
 rfl
theorem aZx (l:List UInt8):(⟨l.toArray⟩:ByteArray).size=l.length:=by simp [ByteArray.size]
/-! ### bytes behind a row of bytes -/
section
variable {T:TT} {n:Nat} {t:mA} {s:aN}
theorem bGo (h:eG P T) {u:Nat} (hu:lk T.kd u=some .string):P.underlying u=some .string:=by
 obtain ⟨q,h1,h2⟩:=h.under hu (fun e=>by cases e)
 cases q <;> simp [aFg] at h2
 exact h1
theorem bBX (h:eG P T) {o:Oper} {x y:Operand} {ty u e:Nat} {d:List UInt8}
  (ho:o.op=.call ⟨.builtin .append,#[x,y],#[ty,u]⟩) (hk:lk T.kd ty=some (.slice e)) (hu:lk T.kd u=some .string) (hs:lk T.sz e=some 1) (hz:lk T.zero e=some [.int .u8 0]) (hby:lk T.by' e=some 1)
  (hx:ev t x=.lit (.slice none 0 0)) (hy:ev t y=.lit (.string ⟨d.toArray⟩)) (h0:0<d.length) (hb:d.length≤140737488355328) :
  sP P o t s (fun v z=>∃ id',v=.row id' d.length∧z=(id',.row e 1 (yQ d) 0) :: s):=by
 intro a w mu i hr hop K Q hK
 rw [ho] at hop
 have v1:=yX (x:=x) hop (by simp [Op.operands,Call.operands])
 have v2:=yX (x:=y) hop (by simp [Op.operands,Call.operands])
 rw [hx] at v1; rw [hy] at v2
 have v1:a.eval x=.slice none 0 0:=v1
 have v2:a.eval y=.string ⟨d.toArray⟩:=v2
 obtain ⟨i0,z,hE,hzc⟩:=aTj h hk hs hz rfl
 have hbytes:=bytesOf h hE.info hby
 have hun:=bGo h hu
 have hsz:=aZx d
 have hrun:=run_append_nil_string (P:=P) w ty u o.type e i0 z hE.under hun hE.info hE.zero ⟨d.toArray⟩ (by omega) (by omega) (by rw [hbytes]; omega)
 have e1:((⟨d.toArray⟩:ByteArray).data.map fun b=>Value.int .u8 b.toNat)=(strCells ⟨d.toArray⟩).toArray:=by
  apply Array.ext'
  simp [strCells]
 rw [e1,hsz] at hrun
 have hge:=grownCap_ge w d.length 0 e
 have hcm:=grownCap_le_maxLen w d.length 0 e (by unfold maxLen; omega)
 have hzl:(Builtin.zeroCells z.cells (grownCap w d.length 0 e - d.length)).size=grownCap w d.length 0 e - d.length:=by rw [size_zeroCells,hE.zsize]; omega
 have hsl:(strCells ⟨d.toArray⟩).length=d.length:=by rw [strCells_length,hsz]
 have hta:((strCells ⟨d.toArray⟩).toArray++Builtin.zeroCells z.cells (grownCap w d.length 0 e - d.length)).toList.take (yQ d).length=strCells ⟨d.toArray⟩:=by
  rw [aC7,← hsl]
  simp only [Array.toList_append]
  exact List.take_left
 have hsz2:((strCells ⟨d.toArray⟩).toArray++Builtin.zeroCells z.cells (grownCap w d.length 0 e - d.length)).size=grownCap w d.length 0 e * 1:=by
  simp only [Array.size_append,List.size_toArray,hsl,hzl]; omega
 obtain ⟨id',m',i',r1,r2,r3,r4⟩:=hr.new e 1 (grownCap w d.length 0 e) ((strCells ⟨d.toArray⟩).toArray++Builtin.zeroCells z.cells (grownCap w d.length 0 e - d.length)) (yQ d) (w.drawn+1) 0 hsz2 hcm (by rw [aC7,hsz2]; omega) (Nat.zero_le _)
  (by rw [hta]; exact aTD d) (by rw [hta]; exact aSN d)
 unfold Oper.wp
 have:(execOp a.eval o).run P w=.ok (.value (.slice (some ⟨w.heap.size,0,none⟩) d.length (grownCap w d.length 0 e))) (w.drew.alloc (.cells ((strCells ⟨d.toArray⟩).toArray++Builtin.zeroCells z.cells (grownCap w d.length 0 e - d.length)) e)):=by
  simp [execOp,ho,resolve,invoke,builtin,v1,v2,hrun]
 rw [this]
 exact hK _ _ (.row id' d.length) _ m' i' ⟨id',rfl,rfl⟩ (.inr ⟨_,_,r2,hge,rfl⟩) r3 r4
theorem bCl (h:eG P T) {o:Oper} {x y:Operand} {ty u e j id:Nat} {l d:List UInt8}
  (ho:o.op=.call ⟨.builtin .append,#[x,y],#[ty,u]⟩) (hk:lk T.kd ty=some (.slice e)) (hu:lk T.kd u=some .string) (hs:lk T.sz e=some 1) (hz:lk T.zero e=some [.int .u8 0]) (hby:lk T.by' e=some 1)
  (hx:ev t x=.row id l.length) (hl0:0<l.length) (hy:ev t y=.lit (.string ⟨d.toArray⟩)) (hj:s[j]?=some (id,.row e 1 (yQ l) 0)) (_h0:0<d.length) (hb:l.length+d.length≤140737488355328) :
  sP P o t s (fun v z=>∃ id',v=.row id' (l.length+d.length)∧z=(id',.row e 1 (yQ (l++d)) 0) :: s.eraseIdx j):=by
 intro a w mu i hr hop K Q hK
 rw [ho] at hop
 have v1:=yX (x:=x) hop (by simp [Op.operands,Call.operands])
 have v2:=yX (x:=y) hop (by simp [Op.operands,Call.operands])
 rw [hx] at v1; rw [hy] at v2
 have v2:a.eval y=.string ⟨d.toArray⟩:=v2
 obtain ⟨i0,z,hE,hzc⟩:=aTj h hk hs hz rfl
 have hbytes:=bytesOf h hE.info hby
 have hun:=bGo h hu
 have hsz:=aZx d
 have hsl:(strCells ⟨d.toArray⟩).length=d.length:=by rw [strCells_length,hsz]
 rcases v1 with ⟨_,u2,_⟩ | ⟨b,cap,u1,u2,u3⟩
 ·omega
 obtain ⟨vs,g1,g2,g3,g4,g5,g6,g7,g8,g9⟩:=hr.row hj u1
 have hvl:vs.toList.length=vs.size:=by simp
 have hcl:(yQ l).length=l.length:=aC7 l
 have fin:∀ v w',(Builtin.append_ #[ty,u] o.type #[a.eval x,a.eval y]).run P w=.ok v w' →
   (∃ id' m' i',VR m' i' (.row id' (l.length+d.length)) v∧nX w' m' i' ((id',.row e 1 (yQ (l++d)) 0) :: s.eraseIdx j)∧Step w mu i s w' m' i' ((id',.row e 1 (yQ (l++d)) 0) :: s.eraseIdx j))→o.wp P a w K Q:=by
  intro v w' hrun ⟨id',m',i',r1,r2,r3⟩
  unfold Oper.wp
  have:(execOp a.eval o).run P w=.ok (.value v) w':=by
   simp [execOp,ho,resolve,invoke,builtin,hrun]
  rw [this]
  exact hK _ _ (.row id' (l.length+d.length)) _ m' i' ⟨id',rfl,rfl⟩ r1 r2 r3
 rw [u3,v2] at fin
 by_cases hroom:l.length+d.length≤cap
 ·have hrun:=run_append_room_string (P:=P) w ty u o.type e i0 hE.under hun hE.info hE.size b l.length cap vs g1 ⟨d.toArray⟩ (by omega) (by omega)
  rw [hsz] at hrun
  have ltake:(vs.toList.take l.length).length=l.length:=by rw [List.length_take]; omega
  have hlen:(vs.toList.take l.length++strCells ⟨d.toArray⟩++vs.toList.drop (l.length+d.length)).length=vs.size:=by
   simp only [List.length_append,List.length_drop,ltake,hsl]; omega
  have htk:(vs.toList.take l.length++strCells ⟨d.toArray⟩++vs.toList.drop (l.length+d.length)).take (yQ (l++d)).length=vs.toList.take l.length++strCells ⟨d.toArray⟩:=by
   have:(yQ (l++d)).length=(vs.toList.take l.length++strCells ⟨d.toArray⟩).length:=by rw [aC7,List.length_append,List.length_append,ltake,hsl]
   rw [this]
   exact List.take_left
  rw [hcl] at g6 g7
  obtain ⟨r1,r2⟩:=hr.change hj u1 (vs':=(vs.toList.take l.length++strCells ⟨d.toArray⟩++vs.toList.drop (l.length+d.length)).toArray) (cs':=yQ (l++d))
   (by rw [← g2]; simpa using hlen) (by rw [aC7,List.length_append]; simp only [List.size_toArray,hlen]; omega) (Nat.zero_le _)
   (by simp only [htk]; intro q hq; rcases List.mem_append.1 hq with hq | hq; exact g6 q hq; exact aTD d q hq)
   (by simp only [htk]; rw [aYS]; exact g7.append (aSN d)) g1 (fun o' ho'=>absurd ho' (Nat.not_lt_zero _))
  have hj':(s.set j (id,Ob.row e 1 (yQ (l++d)) 0))[j]?=some (id,Ob.row e 1 (yQ (l++d)) 0):=by
   rw [List.getElem?_set_self (List.getElem?_eq_some_iff.1 hj).1]
  obtain ⟨id',i',p1,p2,p3,p4⟩:=r1.rename hj'
  have her:(s.set j (id,Ob.row e 1 (yQ (l++d)) 0)).eraseIdx j=s.eraseIdx j:=by rw [List.eraseIdx_set_eq]
  rw [her] at p3 p4
  exact fin _ _ hrun ⟨id',mu,i',.inr ⟨b,cap,by rw [p2]; exact u1,hroom,rfl⟩,p3,r2.trans p4⟩
 ·have holds:∀ (j':Nat) (q:Value),(vs.toList.take l.length)[j']?=some q→w.cell? ((⟨b,0,none⟩:Addr).add j')=some q:=fun j' q hq=>by
   rw [add_lit,Nat.zero_add,cell_of_row w b j' vs e (0,0) g1]
   have:=wK hq
   simpa using this
  have hol:(vs.toList.take l.length).length=l.length:=by rw [List.length_take]; omega
  have hrun:=run_append_grow_string (P:=P) w ty u o.type e i0 z hE.under hun hE.info hE.zero ⟨b,0,none⟩ l.length cap (vs.toList.take l.length) (by rw [hE.size,hol]; omega) holds ⟨d.toArray⟩ (by omega) (by omega) (by
   rw [hbytes]; exact growslice_fits (by omega) (by omega))
  rw [hsz] at hrun
  have sub:nX w mu i (s.eraseIdx j):=hr.sub (List.eraseIdx_sublist s j)
  have toS:∀ {w' m' i' s'},Step w mu i (s.eraseIdx j) w' m' i' s'→Step w mu i s w' m' i' s':=by
   intro w' m' i' s' hst
   have hle:∀ b,owns i (s.eraseIdx j) b→owns i s b:=fun b ⟨p,hp,hb⟩=>⟨p,jP hp,hb⟩
   exact ⟨hst.os,hst.tape,hst.output,hst.size,hst.mu,hst.io,fun b hb hno=>hst.block b hb fun hh=>hno (hle b hh),fun b hb hno=>hst.mu' b hb fun hh=>hno (hle b hh),
    fun p hp=>(hst.ids p hp).imp (fun ⟨q,hq,e'⟩=>⟨q,jP hq,e'⟩) (fun h=>h),fun b hb=>(hst.blks b hb).imp (hle b) (fun h=>h)⟩
  have hge:=grownCap_ge w (l.length+d.length) cap e
  have hcm:=grownCap_le_maxLen w (l.length+d.length) cap e (by unfold maxLen; omega)
  have hzl:(Builtin.zeroCells z.cells (grownCap w (l.length+d.length) cap e - (l.length+d.length))).size=grownCap w (l.length+d.length) cap e - (l.length+d.length):=by rw [size_zeroCells,hE.zsize]; omega
  have hta:((vs.toList.take l.length).toArray++(strCells ⟨d.toArray⟩).toArray++Builtin.zeroCells z.cells (grownCap w (l.length+d.length) cap e - (l.length+d.length))).toList.take (yQ (l++d)).length=vs.toList.take l.length++strCells ⟨d.toArray⟩:=by
   have:(yQ (l++d)).length=(vs.toList.take l.length++strCells ⟨d.toArray⟩).length:=by rw [aC7,List.length_append,List.length_append,hol,hsl]
   rw [this]
   simp only [Array.toList_append]
   exact List.take_left
  have hsz2:((vs.toList.take l.length).toArray++(strCells ⟨d.toArray⟩).toArray++Builtin.zeroCells z.cells (grownCap w (l.length+d.length) cap e - (l.length+d.length))).size=grownCap w (l.length+d.length) cap e * 1:=by
   simp only [Array.size_append,List.size_toArray,hol,hsl,hzl]; omega
  rw [hcl] at g6 g7
  obtain ⟨id',m',i',r1,r2,r3,r4⟩:=sub.new e 1 (grownCap w (l.length+d.length) cap e) _ (yQ (l++d)) (w.drawn+1) 0 hsz2 hcm (by rw [aC7,hsz2,List.length_append]; omega) (Nat.zero_le _)
   (by rw [hta]; intro q hq; rcases List.mem_append.1 hq with hq | hq; exact g6 q hq; exact aTD d q hq) (by rw [hta,aYS]; exact g7.append (aSN d))
  exact fin _ _ hrun ⟨id',m',i',.inr ⟨_,_,r2,hge,rfl⟩,r3,toS r4⟩
end
/-! ### the copy check -/
theorem bB3 {e:TypeId} (hc:P.cellsOf e=2) (count:Nat) (hn:1≤count):liesAt P P.depth e count 0 e 1=true:=by
 have hd:P.depth=(2 * (P.types.size+Made.depth)+1)+1:=rfl
 rw [hd]
 simp only [liesAt,Bool.or_eq_true]
 left
 rw [hd]
 simp [rowAt,hc,hn,sameLayout]
set_option maxHeartbeats 1000000 in
set_option maxRecDepth 100000 in
theorem bDh (L:Lays.n240 P ρ) (X:Builder.X72 P ρ) (hc:P.cellsOf (ρ.t 72)=2) (b cap:Nat) (hcap:1≤cap) (w:World) (h0:w.cell? ⟨b,0,none⟩=some (.pointer none)) (hsh:w.shape? b=some (ρ.t 72,cap * 2)) (hfz:w.frozen? ⟨b,0,none⟩=false) :
  Calls P (ρ.f 240) #[.pointer (some ⟨b,0,none⟩)] w fun e w'=>e=.returned (.tuple #[])∧w'=w.setCell ⟨b,0,none⟩ (.pointer (some ⟨b,0,none⟩)):=by
 obtain ⟨j,hj,hjs⟩:=Option.map_eq_some_iff.1 X.sizeBuilder
 have hl:liesAt P P.depth (ρ.t 72) (cap * 2 / P.cellsOf (ρ.t 72)) 0 (ρ.t 72) 1=true:=by
  rw [hc,Nat.mul_div_cancel _ (by decide)]
  exact bB3 hc cap hcap
 have mixed:=L.mixed
 have t72:=L.t72; have a72:=L.a72; have z72:=L.z72; have v72:=L.v72; have u72:=run_underlying L.t72
 have t70:=L.t70; have a70:=L.a70; have z70:=L.z70; have v70:=L.v70; have u70:=run_underlying L.t70
 have t9:=L.t9; have a9:=L.a9; have z9:=L.z9; have v9:=L.v9; have u9:=run_underlying L.t9
 have t4:=L.t4; have a4:=L.a4; have z4:=L.z4; have v4:=L.v4; have u4:=run_underlying L.t4
 have t164:=L.t164; have a164:=L.a164; have z164:=L.z164; have v164:=L.v164; have u164:=run_underlying L.t164
 go_enter L.f240,Body.n240_ntmps ρ
 go_wp2
 rw [Lib.run_to_unsafe w ⟨b,0,none⟩ L.t70 L.t164 hj (by rw [hjs]; decide) hsh (by show 0<cap * 2; omega)]
 simp only [Result.andThen]
 rw [Oper.upon_value]
 go_wp2
 rw [run_callFunc_extern L.f276 (by kernel_rfl) (by kernel_rfl) (by kernel_rfl) (e:=Extern.AbiNoEscape.same) (by kernel_rfl)]
 rw [Lib.run_noEscape]
 simp only [Result.andThen]
 rw [Oper.upon_value]
 go_wp2
 rw [Lib.run_from_unsafe w ⟨b,0,none⟩ L.t164 L.t70 hj hsh hl]
 simp only [Result.andThen]
 rw [Oper.upon_value]
 go_wp2
 go_end0
 exact ⟨rfl,rfl⟩
theorem aX5 {w:World} {b o:Nat} {v:Value} {vs:Array Value} {e:TypeId} {fz:Nat×Nat} (h:w.heap[b]?=some (.cells vs e fz)):w.setCell ⟨b,o,none⟩ v=w.setRow b (vs.setIfInBounds o v):=by
 unfold World.setCell World.setRow
 congr 1
 apply Array.ext_getElem?
 intro k
 simp only [Array.getElem?_modify]
 by_cases hk:b=k
 ·subst hk
  rw [if_pos rfl,if_pos rfl,h]
  simp
 ·rw [if_neg hk,if_neg hk]
theorem bBS (L:Lays.n240 P ρ) (X:Builder.X72 P ρ) (hc:P.cellsOf (ρ.t 72)=2) {ib:Nat} {p c1:AV} (hp:p=.lit (.pointer none)∨p=.ref ib 0) :
  lO P (ρ.f 240) [.ref ib 0] [(ib,.row (ρ.t 72) 2 [p,c1] 0)] (fun av s=>av=.tup []∧s=[(ib,.row (ρ.t 72) 2 [.ref ib 0,c1] 0)]):=by
 intro w m i cargs hr hv
 obtain ⟨v,vs',rfl,⟨b,cap,hi,rfl⟩,rfl⟩:=hv
 obtain ⟨vs,g1,g2,g3,g4,g5,g6,g7,g8,g9⟩:=hr.row (j:=0) rfl hi
 have hsz:2≤vs.size:=g4
 obtain ⟨v0,t0,e0,q0,v1,t1,e1,q1,e2⟩:=g7
 have et:vs.toList.take 2=[v0,v1]:=by
  have e2:t1=[]:=e2
  rw [← e2,← e1]; exact e0
 have hget:∀ (j:Nat) (x:Value),[v0,v1][j]?=some x→vs[j]?=some x:=fun j x hx=>by
  rw [← et] at hx
  have:=wK hx
  simpa using this
 have hcell0:w.cell? ⟨b,0,none⟩=some v0:=by
  rw [cell_of_row w b 0 vs _ (0,0) g1]; exact hget 0 v0 rfl
 rcases hp with rfl | rfl
 ·obtain rfl:v0=.pointer none:=q0
  refine (bDh L X hc b cap (by omega) w hcell0 (by simp [World.shape?,g1,g2]) (by simp [World.frozen?,g1])).mono ?_
  rintro e w' ⟨rfl,rfl⟩
  have hlst:(vs.setIfInBounds 0 (.pointer (some ⟨b,0,none⟩))).toList.take 2=[.pointer (some ⟨b,0,none⟩),v1]:=by
   rw [Array.toList_setIfInBounds,List.take_set,et]; rfl
  have ones:pY [Value.pointer (some ⟨b,0,none⟩),v1]:=fun x hx=>by
   rcases List.mem_cons.1 hx with rfl | hx
   ·rfl
   ·exact g6 x (by show x∈vs.toList.take 2; rw [et]; exact List.mem_cons_of_mem _ hx)
  obtain ⟨r1,r2⟩:=hr.change (j:=0) rfl hi (vs':=vs.setIfInBounds 0 (.pointer (some ⟨b,0,none⟩))) (cs':=[.ref ib 0,c1]) (by rw [Array.size_setIfInBounds]; exact g2) (by rw [Array.size_setIfInBounds]; exact g4) (Nat.zero_le _)
   (by show pY (List.take 2 _); rw [hlst]; exact ones) (by show VL m i _ (List.take 2 _); rw [hlst]; exact ⟨_,_,rfl,⟨b,cap,hi,rfl⟩,_,_,rfl,q1,rfl⟩) g1 (fun o ho=>absurd ho (Nat.not_lt_zero _))
  rw [aX5 g1]
  exact ⟨_,.tup [],_,m,i,rfl,⟨rfl,rfl⟩,⟨[],rfl,rfl⟩,r1,r2⟩
 ·obtain ⟨b',cap',hi',rfl⟩:=q0
  rw [hi] at hi'
  cases hi'
  refine (Any.Builder_copyCheck_used L X b w hcell0).mono ?_
  rintro e w' ⟨rfl,rfl⟩
  exact ⟨_,.tup [],_,m,i,rfl,⟨rfl,rfl⟩,⟨[],rfl,rfl⟩,hr,Step.refl _ _ _ _⟩
/-! ### what was written -/
set_option maxHeartbeats 2000000 in
set_option maxRecDepth 100000 in
theorem str_some (L:Lays.n169 P ρ) (X:Builder.Extra P ρ) (b g cap:Nat) (fz:Nat×Nat) (cur:Array Value) (l:List UInt8) (h0:l≠[]) (w:World) (hb1:w.cell? ⟨b,1,none⟩=some (.slice (some ⟨g,0,none⟩) l.length cap)) (hg:w.heap[g]?=some (.cells cur (ρ.t 5) fz))
  (hnc:l.length≤cap) (hcm:cap≤maxLen) (hcs:cur.size=cap) (htake:cur.toList.take l.length=byteCells l) :
  Calls P (ρ.f 169) #[.pointer (some ⟨b,0,none⟩)] w fun e w'=>e=.returned (.string ⟨l.toArray⟩)∧w'=w.drew.freeze ⟨g,0,none⟩ l.length:=by
 have hl0:l.length≠0:=by simpa using h0
 have c1:w.drew.cell? ⟨b,1,none⟩=some (.slice (some ⟨g,0,none⟩) l.length cap):=hb1
 have hSD:(Builtin.unsafeSliceData_ #[(ρ.t 37)] (ρ.t 127) #[.slice (some ⟨g,0,none⟩) l.length cap]).run P w.drew=.ok (.pointer (some ⟨g,0,none⟩)) w.drew :=
  Lib.run_unsafeSliceData_row _ _ _ _ _ _ (by omega)
 have hUS:(Builtin.unsafeString_ #[(ρ.t 127),(ρ.t 3)] (ρ.t 9) #[.pointer (some ⟨g,0,none⟩),.int .i64 l.length]).run P w.drew=.ok (.string ⟨l.toArray⟩) (w.drew.freeze ⟨g,0,none⟩ l.length):=by
  refine Lib.run_unsafeString_row w.drew (ρ.t 127) (ρ.t 3) (ρ.t 9) (ρ.t 5) L.t127 X.cellsByte g cur.size (by have hg':w.drew.heap[g]?=some (.cells cur (ρ.t 5) fz):=hg; simp [World.shape?,hg']) l h0 (by omega) (by unfold maxLen at hcm; omega) ?_
  intro j x hx
  have hg':w.drew.heap[g]?=some (.cells cur (ρ.t 5) fz):=hg
  rw [add_lit,Nat.zero_add,cell_of_row w.drew g j cur (ρ.t 5) fz hg']
  have:(cur.toList.take l.length)[j]?=some (.int .u8 x.toNat):=by rw [htake]; simp [byteCells,hx]
  have:=wK this
  simpa using this
 have mixed:=L.mixed
 have t72:=L.t72; have a72:=L.a72; have z72:=L.z72; have v72:=L.v72; have u72:=run_underlying L.t72
 have t70:=L.t70; have a70:=L.a70; have z70:=L.z70; have v70:=L.v70; have u70:=run_underlying L.t70
 have t37:=L.t37; have a37:=L.a37; have z37:=L.z37; have v37:=L.v37; have u37:=run_underlying L.t37
 have t127:=L.t127; have a127:=L.a127; have z127:=L.z127; have v127:=L.v127; have u127:=run_underlying L.t127
 have t3:=L.t3; have a3:=L.a3; have z3:=L.z3; have v3:=L.v3; have u3:=run_underlying L.t3
 have t9:=L.t9; have a9:=L.a9; have z9:=L.z9; have v9:=L.v9; have u9:=run_underlying L.t9
 have t5:=X.t5; have a5:=X.a5; have z5:=X.z5; have v5:=X.v5; have u5:=run_underlying X.t5
 go_enter L.f169,Body.n169_ntmps ρ
 go_wp2
 go_region_o
 all_goals (go_wp2; go_ret; exact ⟨rfl,rfl⟩)
set_option maxHeartbeats 2000000 in
set_option maxRecDepth 100000 in
theorem str_none (L:Lays.n169 P ρ) (X:Builder.Extra P ρ) (b:Nat) (w:World) (hb1:w.cell? ⟨b,1,none⟩=some (.slice none 0 0)) :
  Calls P (ρ.f 169) #[.pointer (some ⟨b,0,none⟩)] w fun e w'=>e=.returned (.string ⟨#[]⟩)∧w'=w.drew:=by
 have hUS:∀ (W:World) (q:Option Addr),(Builtin.unsafeString_ #[(ρ.t 127),(ρ.t 3)] (ρ.t 9) #[.pointer q,.int .i64 0]).run P W=.ok (.string .empty) W:=fun W q=>Lib.run_unsafeString_none W _ _ _ q
 have c1:w.drew.cell? ⟨b,1,none⟩=some (.slice none 0 0):=hb1
 have hSD:(Builtin.unsafeSliceData_ #[(ρ.t 37)] (ρ.t 127) #[.slice none 0 0]).run P w.drew=.ok (.pointer none) w.drew:=rfl
 have mixed:=L.mixed
 have t72:=L.t72; have a72:=L.a72; have z72:=L.z72; have v72:=L.v72; have u72:=run_underlying L.t72
 have t70:=L.t70; have a70:=L.a70; have z70:=L.z70; have v70:=L.v70; have u70:=run_underlying L.t70
 have t37:=L.t37; have a37:=L.a37; have z37:=L.z37; have v37:=L.v37; have u37:=run_underlying L.t37
 have t127:=L.t127; have a127:=L.a127; have z127:=L.z127; have v127:=L.v127; have u127:=run_underlying L.t127
 have t3:=L.t3; have a3:=L.a3; have z3:=L.z3; have v3:=L.v3; have u3:=run_underlying L.t3
 have t9:=L.t9; have a9:=L.a9; have z9:=L.z9; have v9:=L.v9; have u9:=run_underlying L.t9
 have t5:=X.t5; have a5:=X.a5; have z5:=X.z5; have v5:=X.v5; have u5:=run_underlying X.t5
 go_enter L.f169,Body.n169_ntmps ρ
 go_wp2
 go_region_o
 all_goals (go_wp2; go_ret; exact ⟨rfl,rfl⟩)
theorem aXZ (w:World) (g k:Nat) (x:Addr):(w.freeze ⟨g,0,none⟩ k).cell? x=w.cell? x:=by
 unfold World.freeze
 split
 ·rfl
 unfold World.cell?
 simp only [Array.getElem?_modify]
 by_cases hk:g=x.block
 ·rw [if_pos hk]
  cases w.heap[x.block]? with
  | none=>rfl
  | some o=>cases o <;> rfl
 ·rw [if_neg hk]
theorem aY6 (w:World) (g k:Nat) (b:Nat) (h:b≠g):(w.freeze ⟨g,0,none⟩ k).heap[b]?=w.heap[b]?:=by
 unfold World.freeze
 split
 ·rfl
 simp only [Array.getElem?_modify]
 rw [if_neg (fun e=>h e.symm)]
theorem aYH (w:World) (g k:Nat):(w.freeze ⟨g,0,none⟩ k).heap.size=w.heap.size∧(w.freeze ⟨g,0,none⟩ k).os=w.os∧(w.freeze ⟨g,0,none⟩ k).tape=w.tape∧(w.freeze ⟨g,0,none⟩ k).output=w.output:=by
 unfold World.freeze
 split
 ·exact ⟨rfl,rfl,rfl,rfl⟩
 ·exact ⟨by simp,rfl,rfl,rfl⟩
theorem aY0 (L:Lays.n169 P ρ) (X:Builder.Extra P ρ) {ib ig:Nat} {p:AV} {l:List UInt8} (h0:l≠[]) :
  lO P (ρ.f 169) [.ref ib 0] [(ib,.row (ρ.t 72) 2 [p,.row ig l.length] 0),(ig,.row (ρ.t 5) 1 (yQ l) 0)] (fun av s=>av=.lit (.string ⟨l.toArray⟩)∧s=[]):=by
 intro w m i cargs hr hv
 obtain ⟨v,vs',rfl,⟨b,cap,hi,rfl⟩,rfl⟩:=hv
 obtain ⟨vs,g1,g2,g3,g4,g5,g6,g7,g8,g9⟩:=hr.row (j:=0) rfl hi
 obtain ⟨v0,t0,e0,q0,v1,t1,e1,q1,e2⟩:=g7
 have et:vs.toList.take 2=[v0,v1]:=by
  have e2:t1=[]:=e2
  rw [← e2,← e1]; exact e0
 have hl0:l.length≠0:=fun e=>h0 (List.length_eq_zero_iff.1 e)
 rcases q1 with ⟨_,q,_⟩ | ⟨g,cg,hig,hn,rfl⟩
 ·exact absurd q hl0
 obtain ⟨cur,k1,k2,k3,k4,k5,k6,k7,k8,k9⟩:=hr.row (j:=1) rfl hig
 have hby:cur.toList.take l.length=byteCells l:=by
  have:=bBo l _ k7
  rw [aC7] at this
  exact this
 have hcell1:w.cell? ⟨b,1,none⟩=some (.slice (some ⟨g,0,none⟩) l.length cg):=by
  rw [cell_of_row w b 1 vs _ (0,0) g1]
  have:(vs.toList.take 2)[1]?=some (.slice (some ⟨g,0,none⟩) l.length cg):=by rw [et]; rfl
  have:=wK this
  simpa using this
 refine (str_some L X b g cg (0,0) cur l h0 w hcell1 k1 hn k3 (by omega) hby).mono ?_
 rintro e w' ⟨rfl,rfl⟩
 obtain ⟨z1,z2,z3,z4⟩:=aYH w.drew g l.length
 have hown:owns i [(ib,Ob.row (ρ.t 72) 2 [p,.row ig l.length] 0),(ig,Ob.row (ρ.t 5) 1 (yQ l) 0)] g:=⟨_,List.mem_cons_of_mem _ List.mem_cons_self,by simp [blk,hig]⟩
 refine ⟨_,_,[],m,i,rfl,⟨rfl,rfl⟩,rfl,⟨fun b' o v' hm=>?_,(fun q hq=>by cases hq),List.Pairwise.nil,hr.fin,hr.tab⟩,
  ⟨z2,z3,z4,Nat.le_of_eq z1.symm,Mu.le_refl _,Io.le_refl _,fun b' hb' hno=>?_,fun _ _ _ _=>rfl,(fun q hq=>by cases hq),(fun b' ⟨q,hq,_⟩=>by cases hq)⟩⟩
 ·rw [aXZ]
  exact hr.mu _ _ _ hm
 ·exact aY6 w.drew g l.length b' (fun e=>hno (e ▸ hown))
theorem aX2 (L:Lays.n169 P ρ) (X:Builder.Extra P ρ) {ib:Nat} {p:AV} :
  lO P (ρ.f 169) [.ref ib 0] [(ib,.row (ρ.t 72) 2 [p,.lit (.slice none 0 0)] 0)] (fun av s=>av=.lit (.string ⟨#[]⟩)∧s=[]):=by
 intro w m i cargs hr hv
 obtain ⟨v,vs',rfl,⟨b,cap,hi,rfl⟩,rfl⟩:=hv
 obtain ⟨vs,g1,g2,g3,g4,g5,g6,g7,g8,g9⟩:=hr.row (j:=0) rfl hi
 obtain ⟨v0,t0,e0,q0,v1,t1,e1,q1,e2⟩:=g7
 have et:vs.toList.take 2=[v0,v1]:=by
  have e2:t1=[]:=e2
  rw [← e2,← e1]; exact e0
 obtain rfl:v1=.slice none 0 0:=q1
 have hcell1:w.cell? ⟨b,1,none⟩=some (.slice none 0 0):=by
  rw [cell_of_row w b 1 vs _ (0,0) g1]
  have:(vs.toList.take 2)[1]?=some (.slice none 0 0):=by rw [et]; rfl
  have:=wK this
  simpa using this
 refine (str_none L X b w hcell1).mono ?_
 rintro e w' ⟨rfl,rfl⟩
 exact ⟨_,_,[],m,i,rfl,⟨rfl,rfl⟩,rfl,⟨hr.mu,(fun q hq=>by cases hq),List.Pairwise.nil,hr.fin,hr.tab⟩,
  ⟨rfl,rfl,rfl,Nat.le_refl _,Mu.le_refl _,Io.le_refl _,fun _ _ _=>rfl,fun _ _ _ _=>rfl,(fun q hq=>by cases hq),(fun b' ⟨q,hq,_⟩=>by cases hq)⟩⟩
end Go.Sx

