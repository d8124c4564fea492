/- Joined texts: A1, A2, A3, A4, S1, S2, S3, S4, S5, S5b, Pr0. -/
import Derived.Test.YtjhfgiieicloeaaGreatDoorGp
import Derived.Test.YtjhfgiieicloeaaGreatDoorGf
/- Plain facts of trees, part 1: size, depth. -/
namespace Go.Proofs.YtjhfgiieicloeaaGreatDoor
open Go Go.Am Go.Sx
def kindOf:Tr→Int
  | .nil=>0
  | .node k _ _ _ _=>k
def sizeT:Tr→Nat
  | .nil=>0
  | .node _ _ _ _ ks=>1+go ks
where go:List Tr→Nat
  | []=>0
  | k :: ks=>sizeT k+go ks
abbrev sizeL (l:List Tr):Nat:=sizeT.go l
theorem sizeL_nil:sizeL []=0:=by simp [sizeT.go]
theorem sizeL_cons (k:Tr) (ks:List Tr):sizeL (k :: ks)=sizeT k+sizeL ks:=by simp [sizeT.go]
theorem sizeT_nil:sizeT .nil=0:=by simp [sizeT]
theorem sizeT_node {k n nm mk ks}:sizeT (Tr.node k n nm mk ks)=1+sizeL ks:=by simp [sizeT]
theorem sizeL_le:∀ {l:List Tr},(∀ x∈l,sizeT x≤x.w)→sizeL l≤wL l
  | [],_=>by simp [sizeL_nil,wL_nil]
  | k :: l,h=>by
    rw [sizeL_cons,wL_cons]
    have:=h k List.mem_cons_self
    have:=sizeL_le (l:=l) fun x hx=>h x (List.mem_cons_of_mem _ hx)
    omega
theorem sizeL_mem:∀ {l:List Tr} {x:Tr},x∈l→sizeT x≤sizeL l
  | k :: l,x,hx=>by
    rw [sizeL_cons]
    rcases List.mem_cons.1 hx with rfl | hx
    · omega
    · have:=sizeL_mem hx; omega
theorem sizeT_le:∀ t:Tr,sizeT t≤t.w:=Tr.ind (by simp [sizeT_nil]) fun k n nm mk ks ih=>by
  rw [sizeT_node,w_node]; have:=sizeL_le ih; omega
def deepT:Tr→Nat
  | .nil=>0
  | .node _ _ _ _ ks=>go ks 0+1
where go:List Tr→Nat→Nat
  | [],d=>d
  | k :: ks,d=>go ks (max d (deepT k))
abbrev deepL (l:List Tr) (d:Nat):Nat:=deepT.go l d
theorem deepL_nil (d:Nat):deepL [] d=d:=by simp [deepT.go]
theorem deepL_cons (k:Tr) (ks:List Tr) (d:Nat):deepL (k :: ks) d=deepL ks (max d (deepT k)):=by simp [deepT.go]
theorem deepT_nil:deepT .nil=0:=by simp [deepT]
theorem deepT_node {k n nm mk ks}:deepT (Tr.node k n nm mk ks)=deepL ks 0+1:=by simp [deepT]
theorem deepL_le:∀ {l:List Tr} (d:Nat),(∀ x∈l,deepT x≤x.w)→deepL l d≤d+wL l
  | [],d,_=>by simp [deepL_nil,wL_nil]
  | k :: l,d,h=>by
    rw [deepL_cons,wL_cons]
    have:=h k List.mem_cons_self
    have:=deepL_le (l:=l) (max d (deepT k)) fun x hx=>h x (List.mem_cons_of_mem _ hx)
    omega
theorem deepL_ge:∀ {l:List Tr} {d:Nat},d≤deepL l d
  | [],d=>by rw [deepL_nil]; omega
  | y :: l,d=>by rw [deepL_cons]; have:=deepL_ge (l:=l) (d:=max d (deepT y)); omega
theorem deepL_mem:∀ {l:List Tr} {x:Tr} {d:Nat},x∈l→deepT x≤deepL l d
  | y :: l,x,d,h=>by
    rw [deepL_cons]
    rcases List.mem_cons.1 h with rfl | hx
    · have:=deepL_ge (l:=l) (d:=max d (deepT x)); omega
    · exact deepL_mem hx
theorem deepT_le:∀ t:Tr,deepT t≤t.w:=Tr.ind (by simp [deepT_nil]) fun k n nm mk ks ih=>by
  rw [deepT_node,w_node]; have:=deepL_le 0 ih; omega
theorem kids_big {k n nm mk ks} (h:(Tr.node k n nm mk ks).w≤1099511627776):wL ks≤1099511627776∧ks.length≤1099511627776:=by
  rw [w_node] at h
  have:=wL_len ks
  omega
theorem ev_size_loop {ks:List Tr} (hl:ks.length≤1099511627776) (ih:∀ x∈ks,Ev (fun K=>arena_Size K x) (sizeT x:Int)):∀ (m i s:Nat),ks.length=i+m→s+sizeL (ks.drop i)≤2 * 1099511627776 →
    Ev (fun K=>arena_Size_l0 K (s:Int) ks (i:Int)) ((s+sizeL (ks.drop i):Nat):Int):=by
  intro m
  induction m with
  | zero =>
    intro i s hi hs
    refine Ev.step (fun k=>by rw [arena_Size_l0]) ?_
    refine Ev.dF (by omega) (Ev.pure' ?_)
    rw [List.drop_of_length_le (by omega),sizeL_nil]; rfl
  | succ m ihm =>
    intro i s hi hs
    have hlt:i<ks.length:=by omega
    rw [drop_get hlt,sizeL_cons] at hs ⊢
    refine Ev.step (fun k=>by rw [arena_Size_l0]) ?_
    refine Ev.dT (by omega) (Ev.opt (getI_lt hlt) (Ev.bind (ih _ (List.getElem_mem hlt)) ?_))
    rw [wrap_nat (by omega),wrap_id (by omega) (by omega)]
    have:=ihm (i+1) (s+sizeT ks[i]) (by omega) (by omega)
    rw [Int.natCast_add] at this
    rw [show s+(sizeT ks[i]+sizeL (ks.drop (i+1)))=s+sizeT ks[i]+sizeL (ks.drop (i+1)) by omega]
    exact this
theorem ev_size:∀ t:Tr,t.w≤1099511627776→Ev (fun K=>arena_Size K t) (sizeT t:Int):=Tr.ind
  (fun _=>Ev.step (fun k=>by rw [arena_Size]) (Ev.pure' (by simp [sizeT_nil])))
  fun k n nm mk ks ih h=>by
    obtain ⟨h1,h2⟩:=kids_big h
    refine Ev.step (fun k=>by rw [arena_Size]) ?_
    have:=ev_size_loop h2 (fun x hx=>ih x hx (by have:=wL_mem hx; omega)) ks.length 0 1 (by omega) (by
      have:=sizeL_le (l:=ks) fun x _=>sizeT_le x
      simp only [List.drop_zero]; omega)
    rw [sizeT_node]
    simpa using this
theorem ev_rsize_loop {a b:Int} {nm mk:List UInt8} {ks:List Tr} (hl:ks.length≤1099511627776) (ih:∀ x∈ks,Ev (fun K=>ref04_Size K x) (sizeT x:Int)):∀ (m i s:Nat),ks.length=i+m→s+sizeL (ks.drop i)≤2 * 1099511627776 →
    Ev (fun K=>ref04_Size_l0 K (.node a b nm mk ks) (s:Int) (i:Int)) ((s+sizeL (ks.drop i):Nat):Int):=by
  intro m
  induction m with
  | zero =>
    intro i s hi hs
    refine Ev.step (fun k=>by rw [ref04_Size_l0]) ?_
    refine Ev.dF (by omega) (Ev.pure' ?_)
    rw [List.drop_of_length_le (by omega),sizeL_nil]; rfl
  | succ m ihm =>
    intro i s hi hs
    have hlt:i<ks.length:=by omega
    rw [drop_get hlt,sizeL_cons] at hs ⊢
    refine Ev.step (fun k=>by rw [ref04_Size_l0]) ?_
    refine Ev.dT (by omega) (Ev.opt (getI_lt hlt) (Ev.bind (ih _ (List.getElem_mem hlt)) ?_))
    rw [wrap_nat (by omega),wrap_id (by omega) (by omega)]
    have:=ihm (i+1) (s+sizeT ks[i]) (by omega) (by omega)
    rw [Int.natCast_add] at this
    rw [show s+(sizeT ks[i]+sizeL (ks.drop (i+1)))=s+sizeT ks[i]+sizeL (ks.drop (i+1)) by omega]
    exact this
theorem ev_rsize:∀ t:Tr,t.w≤1099511627776→Ev (fun K=>ref04_Size K t) (sizeT t:Int):=Tr.ind
  (fun _=>Ev.step (fun k=>by rw [ref04_Size]) (Ev.pure' (by simp [sizeT_nil])))
  fun k n nm mk ks ih h=>by
    obtain ⟨h1,h2⟩:=kids_big h
    refine Ev.step (fun k=>by rw [ref04_Size]) ?_
    have:=ev_rsize_loop (a:=k) (b:=n) (nm:=nm) (mk:=mk) h2 (fun x hx=>ih x hx (by have:=wL_mem hx; omega)) ks.length 0 1 (by omega) (by
      have:=sizeL_le (l:=ks) fun x _=>sizeT_le x
      simp only [List.drop_zero]; omega)
    rw [sizeT_node]
    simpa using this
theorem ev_deep_loop {ks:List Tr} (hl:ks.length≤1099511627776) (ih:∀ x∈ks,Ev (fun K=>arena_Deep K x) (deepT x:Int)):∀ (m i d:Nat),ks.length=i+m→d+wL (ks.drop i)≤2 * 1099511627776 →
    Ev (fun K=>arena_Deep_l0 K (d:Int) ks (i:Int)) ((deepL (ks.drop i) d+1:Nat):Int):=by
  intro m
  induction m with
  | zero =>
    intro i d hi hs
    refine Ev.step (fun k=>by rw [arena_Deep_l0]) ?_
    refine Ev.dF (by omega) (Ev.pure' ?_)
    rw [List.drop_of_length_le (by omega),deepL_nil,wrap_nat (by omega)]
  | succ m ihm =>
    intro i d hi hs
    have hlt:i<ks.length:=by omega
    rw [drop_get hlt,wL_cons] at hs
    rw [drop_get hlt,deepL_cons]
    refine Ev.step (fun k=>by rw [arena_Deep_l0]) ?_
    refine Ev.dT (by omega) (Ev.opt (getI_lt hlt) (Ev.bind (ih _ (List.getElem_mem hlt)) ?_))
    have hd:=deepT_le ks[i]
    rw [wrap_nat (by omega),show (if (d:Int)<(deepT ks[i]:Int) then (deepT ks[i]:Int) else (d:Int))=((max d (deepT ks[i]):Nat):Int) by split <;> omega]
    exact ihm (i+1) _ (by omega) (by omega)
theorem ev_deep:∀ t:Tr,t.w≤1099511627776→Ev (fun K=>arena_Deep K t) (deepT t:Int):=Tr.ind
  (fun _=>Ev.step (fun k=>by rw [arena_Deep]) (Ev.pure' (by simp [deepT_nil])))
  fun k n nm mk ks ih h=>by
    obtain ⟨h1,h2⟩:=kids_big h
    refine Ev.step (fun k=>by rw [arena_Deep]) ?_
    have:=ev_deep_loop h2 (fun x hx=>ih x hx (by have:=wL_mem hx; omega)) ks.length 0 0 (by omega) (by simp only [List.drop_zero]; omega)
    rw [deepT_node]
    simpa using this
theorem ev_rdeep_loop {a b:Int} {nm mk:List UInt8} {ks:List Tr} (hl:ks.length≤1099511627776) (ih:∀ x∈ks,Ev (fun K=>ref04_Deep K x) (deepT x:Int)):∀ (m i d:Nat),ks.length=i+m→d+wL (ks.drop i)≤2 * 1099511627776 →
    Ev (fun K=>ref04_Deep_l0 K (.node a b nm mk ks) (d:Int) (i:Int)) ((deepL (ks.drop i) d+1:Nat):Int):=by
  intro m
  induction m with
  | zero =>
    intro i d hi hs
    refine Ev.step (fun k=>by rw [ref04_Deep_l0]) ?_
    refine Ev.dF (by omega) (Ev.pure' ?_)
    rw [List.drop_of_length_le (by omega),deepL_nil,Int.add_comm,wrap_nat (by omega)]
  | succ m ihm =>
    intro i d hi hs
    have hlt:i<ks.length:=by omega
    rw [drop_get hlt,wL_cons] at hs
    rw [drop_get hlt,deepL_cons]
    refine Ev.step (fun k=>by rw [ref04_Deep_l0]) ?_
    refine Ev.dT (by omega) (Ev.opt (getI_lt hlt) (Ev.bind (ih _ (List.getElem_mem hlt)) ?_))
    have hd:=deepT_le ks[i]
    rw [wrap_nat (by omega)]
    refine Ev.d (fun h=>?_) (fun h=>?_)
    · rw [show max d (deepT ks[i])=deepT ks[i] by omega]
      exact ihm (i+1) _ (by omega) (by omega)
    · rw [show max d (deepT ks[i])=d by omega]
      exact ihm (i+1) _ (by omega) (by omega)
theorem ev_rdeep:∀ t:Tr,t.w≤1099511627776→Ev (fun K=>ref04_Deep K t) (deepT t:Int):=Tr.ind
  (fun _=>Ev.step (fun k=>by rw [ref04_Deep]) (Ev.pure' (by simp [deepT_nil])))
  fun k n nm mk ks ih h=>by
    obtain ⟨h1,h2⟩:=kids_big h
    refine Ev.step (fun k=>by rw [ref04_Deep]) ?_
    have:=ev_rdeep_loop (a:=k) (b:=n) (nm:=nm) (mk:=mk) h2 (fun x hx=>ih x hx (by have:=wL_mem hx; omega)) ks.length 0 0 (by omega) (by simp only [List.drop_zero]; omega)
    rw [deepT_node]
    simpa using this
end Go.Proofs.YtjhfgiieicloeaaGreatDoor

/- Plain facts of trees, part 2: few cells, no nil, packing. -/
namespace Go.Proofs.YtjhfgiieicloeaaGreatDoor
open Go Go.Am Go.Sx
def cutC (c:Cell):Cell:=⟨c.1,c.2.1,c.2.2.1.take 130,c.2.2.2.1.take 130,c.2.2.2.2.take 12⟩
def fullT:Tr→Bool
  | .nil=>false
  | .node _ _ _ _ ks=>go ks
where go:List Tr→Bool
  | []=>true
  | k :: ks=>fullT k && go ks
abbrev fullL (l:List Tr):Bool:=fullT.go l
theorem fullL_nil:fullL []=true:=by simp [fullT.go]
theorem fullL_cons (k:Tr) (ks:List Tr):fullL (k :: ks)=(fullT k && fullL ks):=by simp [fullT.go]
theorem fullT_nil:fullT .nil=false:=by simp [fullT]
theorem fullT_node {k n nm mk ks}:fullT (Tr.node k n nm mk ks)=fullL ks:=by simp [fullT]
theorem fullL_mem:∀ {l:List Tr},fullL l=true↔∀ x∈l,fullT x=true
  | []=>by simp [fullL_nil]
  | k :: l=>by rw [fullL_cons,Bool.and_eq_true,fullL_mem]; simp
theorem ev_indexT_loop {p:List Tr} (hl:p.length≤1099511627776) (ih:∀ x∈p,Ev (fun K=>arena_whole K x) (fullT x)):∀ (m i:Nat),p.length=i+m →
    ∃ r:Int,Ev (fun K=>slices_IndexFunc_l0 K p (i:Int)) r∧decide (0≤r)=!fullL (p.drop i):=by
  intro m
  induction m with
  | zero =>
    intro i hi
    refine ⟨-1,?_,?_⟩
    · refine Ev.step (fun k=>by rw [slices_IndexFunc_l0]) ?_
      exact Ev.dF (by omega) Ev.pure
    · rw [List.drop_of_length_le (by omega),fullL_nil]; rfl
  | succ m ihm =>
    intro i hi
    have hlt:i<p.length:=by omega
    have hw:Ev (fun K=>arena_whole_1 K p[i]) (!fullT p[i]):=Ev.step (fun k=>by rw [arena_whole_1]) (Ev.bind (ih _ (List.getElem_mem hlt)) Ev.pure)
    rw [drop_get hlt,fullL_cons]
    cases hf:fullT p[i] with
    | false =>
      refine ⟨i,?_,by simp⟩
      refine Ev.step (fun k=>by rw [slices_IndexFunc_l0]) ?_
      refine Ev.dT (by omega) (Ev.opt (getI_lt hlt) (Ev.bind hw ?_))
      rw [hf]
      exact Ev.isT rfl Ev.pure
    | true =>
      obtain ⟨r,h1,h2⟩:=ihm (i+1) (by omega)
      refine ⟨r,?_,by simpa using h2⟩
      refine Ev.step (fun k=>by rw [slices_IndexFunc_l0]) ?_
      refine Ev.dT (by omega) (Ev.opt (getI_lt hlt) (Ev.bind hw ?_))
      rw [hf,wrap_nat (by omega)]
      exact Ev.isF (by simp) h1
theorem ev_whole:∀ t:Tr,t.w≤1099511627776→Ev (fun K=>arena_whole K t) (fullT t):=Tr.ind
  (fun _=>Ev.step (fun k=>by rw [arena_whole]) (Ev.pure' fullT_nil.symm))
  fun k n nm mk ks ih h=>by
    obtain ⟨h1,h2⟩:=kids_big h
    refine Ev.step (fun k=>by rw [arena_whole]) ?_
    obtain ⟨r,g1,g2⟩:=ev_indexT_loop h2 (fun x hx=>ih x hx (by have:=wL_mem hx; omega)) ks.length 0 (by omega)
    refine Ev.bind (a:=!fullL ks) ?_ (Ev.pure' (by rw [fullT_node,Bool.not_not]))
    refine Ev.step (fun k=>by rw [slices_ContainsFunc]) (Ev.bind (a:=r) (Ev.step (fun k=>by rw [slices_IndexFunc]; rfl) g1) (Ev.pure' (by simpa using g2)))
theorem ev_hole_loop {a b:Int} {nm mk:List UInt8} {p:List Tr} (hl:p.length≤1099511627776) (ih:∀ x∈p,Ev (fun K=>ref04_hole K x) (!fullT x)):∀ (m i:Nat),p.length=i+m →
    Ev (fun K=>ref04_hole_l0 K (.node a b nm mk p) (i:Int)) (!fullL (p.drop i)):=by
  intro m
  induction m with
  | zero =>
    intro i hi
    refine Ev.step (fun k=>by rw [ref04_hole_l0]) ?_
    exact Ev.dF (by omega) (Ev.pure' (by rw [List.drop_of_length_le (by omega),fullL_nil]; rfl))
  | succ m ihm =>
    intro i hi
    have hlt:i<p.length:=by omega
    rw [drop_get hlt,fullL_cons]
    refine Ev.step (fun k=>by rw [ref04_hole_l0]) ?_
    refine Ev.dT (by omega) (Ev.opt (getI_lt hlt) (Ev.bind (ih _ (List.getElem_mem hlt)) ?_))
    cases hf:fullT p[i] with
    | false=>exact Ev.isT rfl (Ev.pure' (by simp))
    | true =>
      rw [wrap_nat (by omega)]
      refine Ev.isF (by simp) ?_
      simpa using ihm (i+1) (by omega)
theorem ev_hole:∀ t:Tr,t.w≤1099511627776→Ev (fun K=>ref04_hole K t) (!fullT t):=Tr.ind
  (fun _=>Ev.step (fun k=>by rw [ref04_hole]) (Ev.pure' (by rw [fullT_nil]; rfl)))
  fun k n nm mk ks ih h=>by
    obtain ⟨h1,h2⟩:=kids_big h
    refine Ev.step (fun k=>by rw [ref04_hole]) ?_
    have:=ev_hole_loop (a:=k) (b:=n) (nm:=nm) (mk:=mk) h2 (fun x hx=>ih x hx (by have:=wL_mem hx; omega)) ks.length 0 (by omega)
    rw [fullT_node]
    simpa using this
def cellsT:Tr→Nat→List Cell
  | .nil,_=>[]
  | .node k n nm mk ks,f=>(go ks f [] []).2++[⟨k,n,nm,mk,(go ks f [] []).1⟩]
where go:List Tr→Nat→List Int→List Cell→List Int×List Cell
  | [],_,kids,out=>(kids,out)
  | t :: ts,f,kids,out=>go ts f (kids++[((f+(out++cellsT t (f+out.length)).length:Nat):Int) - 1]) (out++cellsT t (f+out.length))
abbrev cellsL (l:List Tr) (f:Nat) (kids:List Int) (out:List Cell):List Int×List Cell:=cellsT.go l f kids out
theorem cellsL_nil (f:Nat) (kids:List Int) (out:List Cell):cellsL [] f kids out=(kids,out):=by simp [cellsT.go]
theorem cellsL_cons (t:Tr) (ts:List Tr) (f:Nat) (kids:List Int) (out:List Cell) :
    cellsL (t :: ts) f kids out=cellsL ts f (kids++[((f+(out++cellsT t (f+out.length)).length:Nat):Int) - 1]) (out++cellsT t (f+out.length)):=by simp [cellsT.go]
theorem cellsT_nil (f:Nat):cellsT .nil f=[]:=by simp [cellsT]
theorem cellsT_node {k n nm mk ks} (f:Nat):cellsT (Tr.node k n nm mk ks) f=(cellsL ks f [] []).2++[⟨k,n,nm,mk,(cellsL ks f [] []).1⟩]:=by simp [cellsT]
theorem cellsL_len:∀ {l:List Tr} (f:Nat) (kids:List Int) (out:List Cell),(∀ x∈l,∀ f,(cellsT x f).length=sizeT x)→(cellsL l f kids out).2.length=out.length+sizeL l
  | [],f,kids,out,_=>by simp [cellsL_nil,sizeL_nil]
  | t :: l,f,kids,out,h=>by
    rw [cellsL_cons,sizeL_cons,cellsL_len (l:=l) _ _ _ fun x hx=>h x (List.mem_cons_of_mem _ hx),List.length_append,h t List.mem_cons_self]
    omega
theorem cellsT_len:∀ (t:Tr) (f:Nat),(cellsT t f).length=sizeT t:=Tr.ind (by simp [cellsT_nil,sizeT_nil]) fun k n nm mk ks ih f=>by
  rw [cellsT_node,sizeT_node,List.length_append,cellsL_len _ _ _ ih]; simp; omega
theorem ev_cells_loop {a b:Int} {nm mk:List UInt8} {ks:List Tr} {f:Nat} (hl:ks.length≤1099511627776)
    (ih:∀ x∈ks,∀ f':Nat,f' + x.w≤1099511627776→Ev (fun K=>ref04_cells K x (f':Int)) (cellsT x f')):∀ (m i:Nat) (kids:List Int) (out:List Cell),ks.length=i+m→kids.length=i→f+out.length+wL (ks.drop i)≤1099511627776 →
    Ev (fun K=>ref04_cells_l0 K (.node a b nm mk ks) (f:Int) out (i:Int) a b nm mk kids) ((cellsL (ks.drop i) f kids out).2++[⟨a,b,nm,mk,(cellsL (ks.drop i) f kids out).1⟩]):=by
  intro m
  induction m with
  | zero =>
    intro i kids out hi hk ho
    refine Ev.step (fun k=>by rw [ref04_cells_l0]) ?_
    have hd:ks.drop i=[]:=List.drop_of_length_le (by omega)
    rw [hd] at ho ⊢
    rw [cellsL_nil]
    exact Ev.dF (by omega) (Ev.opt (appL_ok (by simp; omega)) Ev.pure)
  | succ m ihm =>
    intro i kids out hi hk ho
    have hlt:i<ks.length:=by omega
    rw [drop_get hlt,wL_cons] at ho
    rw [drop_get hlt,cellsL_cons]
    have hc:=cellsT_len ks[i] (f+out.length)
    have hs:=sizeT_le ks[i]
    have hw:=w_pos ks[i]
    refine Ev.step (fun k=>by rw [ref04_cells_l0]) ?_
    refine Ev.dT (by omega) (Ev.opt (getI_lt hlt) ?_)
    rw [wrap_id (by omega) (by omega),← Int.natCast_add]
    refine Ev.bind (ih _ (List.getElem_mem hlt) (f+out.length) (by omega)) (Ev.opt (appL_ok (by omega)) ?_)
    have hlen:(out++cellsT ks[i] (f+out.length)).length=out.length+sizeT ks[i]:=by rw [List.length_append,hc]
    rw [wrap_id (x:=(f:Int)+_) (by omega) (by omega),← Int.natCast_add,wrap_id (by omega) (by omega)]
    refine Ev.opt (appL_ok (by simp; omega)) ?_
    rw [wrap_nat (by omega)]
    exact ihm (i+1) _ _ (by omega) (by simp [hk]) (by omega)
theorem ev_cells:∀ t:Tr,fullT t=true→∀ f:Nat,f+t.w≤1099511627776→Ev (fun K=>ref04_cells K t (f:Int)) (cellsT t f):=Tr.ind
  (fun h=>by rw [fullT_nil] at h; cases h)
  fun k n nm mk ks ih h f hf=>by
    rw [fullT_node] at h
    rw [w_node] at hf
    have hl:=wL_len ks
    refine Ev.step (fun k=>by rw [ref04_cells]) ?_
    have:=ev_cells_loop (a:=k) (b:=n) (nm:=nm) (mk:=mk) (f:=f) (by omega) (fun x hx f' hf'=>ih x hx (fullL_mem.1 h x hx) f' hf') ks.length 0 [] [] (by omega) rfl (by simp; omega)
    rw [cellsT_node]
    simpa using this
theorem ev_add_loop {a b:Int} {nm mk:List UInt8} {ks:List Tr} {acc:List Cell} (hl:ks.length≤1099511627776)
    (ih:∀ x∈ks,∀ acc:List Cell,acc.length+x.w≤1099511627776→Ev (fun K=>arena_Pack_1 K x acc) ((((acc++cellsT x acc.length).length:Nat):Int) - 1,acc++cellsT x acc.length)):∀ (m i:Nat) (kids:List Int) (out:List Cell),ks.length=i+m→kids.length=i→acc.length+out.length+wL (ks.drop i)≤1099511627776 →
    Ev (fun K=>arena_Pack_1_l0 K ks (i:Int) (acc++out) a b nm mk kids) ((((acc++((cellsL (ks.drop i) acc.length kids out).2++[(⟨a,b,nm,mk,(cellsL (ks.drop i) acc.length kids out).1⟩:Cell)])).length:Nat):Int) - 1,acc++((cellsL (ks.drop i) acc.length kids out).2++[⟨a,b,nm,mk,(cellsL (ks.drop i) acc.length kids out).1⟩])):=by
  intro m
  induction m with
  | zero =>
    intro i kids out hi hk ho
    refine Ev.step (fun k=>by rw [arena_Pack_1_l0]) ?_
    have hd:ks.drop i=[]:=List.drop_of_length_le (by omega)
    rw [hd] at ho ⊢
    rw [cellsL_nil]
    refine Ev.dF (by omega) (Ev.opt (appL_ok (by simp; omega)) (Ev.pure' ?_))
    rw [wrap_id (by simp; omega) (by simp; omega),List.append_assoc]
  | succ m ihm =>
    intro i kids out hi hk ho
    have hlt:i<ks.length:=by omega
    rw [drop_get hlt,wL_cons] at ho
    rw [drop_get hlt,cellsL_cons]
    have hc:=cellsT_len ks[i] (acc.length+out.length)
    have hs:=sizeT_le ks[i]
    have hw:=w_pos ks[i]
    refine Ev.step (fun k=>by rw [arena_Pack_1_l0]) ?_
    refine Ev.dT (by omega) (Ev.opt (getI_lt hlt) ?_)
    refine Ev.bind (ih _ (List.getElem_mem hlt) (acc++out) (by simp; omega)) ?_
    have hlen:(out++cellsT ks[i] (acc.length+out.length)).length=out.length+sizeT ks[i]:=by rw [List.length_append,hc]
    refine Ev.opt (appL_ok (by simp; omega)) ?_
    rw [wrap_nat (by omega)]
    have:=ihm (i+1) (kids++[((acc.length+(out++cellsT ks[i] (acc.length+out.length)).length:Nat):Int) - 1]) (out++cellsT ks[i] (acc.length+out.length)) (by omega) (by simp [hk]) (by omega)
    simpa [Nat.add_assoc] using this
theorem ev_add:∀ t:Tr,fullT t=true→∀ acc:List Cell,acc.length+t.w≤1099511627776→Ev (fun K=>arena_Pack_1 K t acc) ((((acc++cellsT t acc.length).length:Nat):Int) - 1,acc++cellsT t acc.length):=Tr.ind
  (fun h=>by rw [fullT_nil] at h; cases h)
  fun k n nm mk ks ih h acc hf=>by
    rw [fullT_node] at h
    rw [w_node] at hf
    have hl:=wL_len ks
    refine Ev.step (fun k=>by rw [arena_Pack_1]) ?_
    have:=ev_add_loop (a:=k) (b:=n) (nm:=nm) (mk:=mk) (acc:=acc) (by omega) (fun x hx f' hf'=>ih x hx (fullL_mem.1 h x hx) f' hf') ks.length 0 [] [] (by omega) rfl (by simp; omega)
    rw [cellsT_node]
    simpa using this
def packT (t:Tr):List Cell×Int:=if fullT t=true then (if 8192<sizeT t then ([],3) else (cellsT t 0,0)) else ([],1)
theorem ev_pack (t:Tr) (h:t.w≤1099511627776):Ev (fun K=>arena_Pack K t) (packT t):=by
  unfold arena_Pack packT
  refine Ev.bind (ev_whole t h) ?_
  by_cases hf:fullT t=true
  · rw [if_pos hf]
    refine Ev.isF (by simp [hf]) (Ev.bind (ev_size t h) ?_)
    by_cases hz:8192<sizeT t
    · rw [if_pos hz]; exact Ev.dT (by omega) Ev.pure
    · rw [if_neg hz]
      refine Ev.dF (by omega) (Ev.bind (ev_add t hf [] (by simpa using h)) (Ev.pure' ?_))
      simp
  · rw [if_neg hf]
    exact Ev.isT (by simp [hf]) Ev.pure
theorem ev_rpack (t:Tr) (h:t.w≤1099511627776):Ev (fun K=>ref04_Pack K t) (packT t):=by
  unfold ref04_Pack packT
  refine Ev.bind (ev_hole t h) ?_
  by_cases hf:fullT t=true
  · rw [if_pos hf]
    refine Ev.isF (by simp [hf]) (Ev.bind (ev_rsize t h) ?_)
    by_cases hz:8192<sizeT t
    · rw [if_pos hz]; exact Ev.dT (by omega) Ev.pure
    · rw [if_neg hz]
      refine Ev.dF (by omega) (Ev.bind (ev_cells t hf 0 (by simpa using h)) (Ev.pure' rfl))
  · rw [if_neg hf]
    exact Ev.isT (by simp [hf]) Ev.pure
end Go.Proofs.YtjhfgiieicloeaaGreatDoor

/- Plain facts of trees, part 3: what cells are opened to. -/
namespace Go.Proofs.YtjhfgiieicloeaaGreatDoor
open Go Go.Am Go.Sx
def allK (l:List Cell):List Int:=l.flatMap (fun c:Cell=>c.2.2.2.2)
theorem allK_append (l m:List Cell):allK (l++m)=allK l++allK m:=by simp [allK]
theorem allK_one (c:Cell):allK [c]=c.2.2.2.2:=by simp [allK]
theorem allK_take {p:List Cell} {i:Nat} (h:i<p.length):allK (p.take (i+1))=allK (p.take i)++p[i].2.2.2.2:=by
  rw [take_get' h,allK_append,allK_one]
def stepN (acc:List Tr) (c:Cell):List Tr:=acc++[.node c.1 c.2.1 c.2.2.1 c.2.2.2.1 (c.2.2.2.2.map fun k=>acc.getD k.toNat .nil)]
def nodesL (l:List Cell):List Tr:=l.foldl stepN []
theorem foldN:∀ (l:List Cell) (acc:List Tr),∃ r,l.foldl stepN acc=acc++r∧r.length=l.length
  | [],acc=>⟨[],by simp,rfl⟩
  | c :: l,acc=>by
    obtain ⟨r,h1,h2⟩:=foldN l (stepN acc c)
    refine ⟨.node c.1 c.2.1 c.2.2.1 c.2.2.2.1 (c.2.2.2.2.map fun k=>acc.getD k.toNat .nil) :: r,?_,by simp [h2]⟩
    rw [List.foldl_cons,h1,stepN]; simp
theorem nodesL_len (l:List Cell):(nodesL l).length=l.length:=by
  obtain ⟨r,h1,h2⟩:=foldN l []
  rw [nodesL,h1]; simpa using h2
theorem nodesL_pre (l m:List Cell):∃ r,nodesL (l++m)=nodesL l++r:=by
  obtain ⟨r,h1,_⟩:=foldN m (nodesL l)
  exact ⟨r,by rw [nodesL,List.foldl_append]; exact h1⟩
theorem nodesL_snoc (l:List Cell) (c:Cell):nodesL (l++[c])=stepN (nodesL l) c:=by simp [nodesL]
theorem nodesL_take {p:List Cell} {i:Nat} (h:i<p.length):nodesL (p.take (i+1))=nodesL (p.take i)++[.node p[i].1 p[i].2.1 p[i].2.2.1 p[i].2.2.2.1 (p[i].2.2.2.2.map fun k=>(nodesL (p.take i)).getD k.toNat .nil)]:=by
  rw [take_get' h,nodesL_snoc,stepN]
theorem nodesL_getD {p:List Cell} {i j:Nat} (hj:j<i) (hi:i≤p.length):(nodesL (p.take i)).getD j .nil=(nodesL p).getD j .nil:=by
  obtain ⟨r,hr⟩:=nodesL_pre (p.take i) (p.drop i)
  rw [List.take_append_drop] at hr
  have hl:=nodesL_len (p.take i)
  rw [List.length_take] at hl
  rw [hr,List.getD_eq_getElem?_getD,List.getD_eq_getElem?_getD,List.getElem?_append_left (by omega)]
theorem nodesL_at {p:List Cell} {i:Nat} (h:i<p.length):(nodesL p).getD i .nil=.node p[i].1 p[i].2.1 p[i].2.2.1 p[i].2.2.2.1 (p[i].2.2.2.2.map fun k=>(nodesL (p.take i)).getD k.toNat .nil):=by
  have hl:=nodesL_len (p.take i)
  rw [List.length_take] at hl
  rw [← nodesL_getD (i:=i+1) (by omega) (by omega),nodesL_take h,List.getD_eq_getElem?_getD,List.getElem?_append_right (by omega)]
  rw [show i - (nodesL (p.take i)).length=0 by omega]
  rfl
def Valid (p:List Cell) (n:Nat):Prop:=∀ (i:Nat) (h:i<p.length),i<n→∀ k∈p[i].2.2.2.2,0≤k∧k<i
open Classical in
noncomputable def openT (p:List Cell):Tr×Int :=
  if p.length=0 then (.nil,1) else if 8192<p.length then (.nil,3)
  else if Valid p p.length∧∀ j:Nat,j+1<p.length→(allK p).count (j:Int)=1 then ((nodesL p).getD (p.length - 1) .nil,0) else (.nil,16)
theorem openT_form {p:List Cell} (h0:p.length≠0) (h1:p.length≤8192) (hn:¬ (Valid p p.length∧∀ j:Nat,j+1<p.length→(allK p).count (j:Int)=1)):openT p=(.nil,16):=by
  unfold openT; rw [if_neg h0,if_neg (by omega),if_neg hn]
theorem openT_good {p:List Cell} (h0:p.length≠0) (h1:p.length≤8192) (hn:Valid p p.length∧∀ j:Nat,j+1<p.length→(allK p).count (j:Int)=1):openT p=((nodesL p).getD (p.length - 1) .nil,0):=by
  unfold openT; rw [if_neg h0,if_neg (by omega),if_pos hn]
theorem openT_bad {p:List Cell} (h1:p.length≤8192) {i:Nat} (hi:i<p.length) {k:Int} (hk:k∈p[i].2.2.2.2) (hb:¬ (0≤k∧k<i)):openT p=(.nil,16) :=
  openT_form (by omega) h1 fun h=>hb (h.1 i hi hi k hk)
def cntOf (n:Nat) (seen:List Int):List Int:=(List.range n).map fun j:Nat=>((seen.count (j:Int):Nat):Int)
theorem cntOf_len (n:Nat) (s:List Int):(cntOf n s).length=n:=by simp [cntOf]
theorem cntOf_get {n:Nat} {s:List Int} {k:Int} (h0:0≤k) (h:k<n):getI (cntOf n s) k=some ((s.count k:Nat):Int):=by
  unfold getI cntOf
  rw [if_pos h0,List.getElem?_map,List.getElem?_range (by omega)]
  simp [Int.toNat_of_nonneg h0]
theorem cntOf_set {n:Nat} {s:List Int} {k:Int} (h0:0≤k):(cntOf n s).set k.toNat ((s.count k:Nat)+1:Int)=cntOf n (s++[k]):=by
  apply List.ext_getElem?
  intro j
  unfold cntOf
  rw [List.getElem?_set]
  simp only [List.length_map,List.length_range,List.getElem?_map]
  by_cases e:k.toNat=j
  · subst e
    by_cases hl:k.toNat<n
    · rw [if_pos rfl,if_pos hl,List.getElem?_range hl]
      simp [Int.toNat_of_nonneg h0,List.count_append]
    · rw [if_pos rfl,if_neg hl,List.getElem?_eq_none (by simp; omega)]; rfl
  · rw [if_neg e]
    by_cases hl:j<n
    · rw [List.getElem?_range hl]
      simp only [Option.map_some,List.count_append]
      rw [List.count_cons,List.count_nil,if_neg (by simp; omega)]
      simp
    · rw [List.getElem?_eq_none (by simp; omega)]; rfl
theorem take_kids {l:List Int} {j:Nat} (h:j<l.length) (s:List Int):s++l.take (j+1)=(s++l.take j)++[l[j]]:=by
  rw [take_get' h,List.append_assoc]
theorem allK_len {p:List Cell} (hk:∀ c∈p,c.2.2.2.2.length≤1048576) (i:Nat):(allK (p.take i)).length≤1048576 * i:=by
  have gen:∀ (c:Nat),(∀ x∈p,x.2.2.2.2.length≤c)→∀ i,(allK (p.take i)).length≤c * i:=by
    intro c hc i
    induction i with
    | zero=>simp [allK]
    | succ i ih =>
      rw [Nat.mul_succ]
      by_cases h:i<p.length
      · rw [allK_take h,List.length_append]
        have:=hc _ (List.getElem_mem h)
        omega
      · rw [List.take_of_length_le (by omega)] at ih ⊢
        omega
  exact gen _ hk i
theorem ev_grow {p:List Cell} (hk:∀ c∈p,c.2.2.2.2.length≤1048576) (hv:Valid p p.length):∀ (n i:Nat),i<n→i<p.length→Ev (fun K=>ref04_grow K p (i:Int)) ((nodesL p).getD i .nil):=by
  intro n
  induction n with
  | zero=>intro i h; omega
  | succ n ih =>
    intro i hi hl
    refine Ev.step (fun k=>by rw [ref04_grow]) (Ev.opt (getI_lt hl) ?_)
    have hkk:=hk _ (List.getElem_mem hl)
    have loop:∀ (m j:Nat),p[i].2.2.2.2.length=j+m→Ev (fun K=>ref04_grow_l0 K (j:Int) p p[i].1 p[i].2.1 p[i].2.2.1 p[i].2.2.2.1 p[i].2.2.2.2 ((p[i].2.2.2.2.take j).map fun k=>(nodesL (p.take i)).getD k.toNat .nil)) ((nodesL p).getD i .nil):=by
      intro m
      induction m with
      | zero =>
        intro j hj
        refine Ev.step (fun k=>by rw [ref04_grow_l0]) ?_
        refine Ev.dF (by omega) (Ev.pure' ?_)
        rw [List.take_of_length_le (l:=p[i].2.2.2.2) (by omega),nodesL_at hl]
      | succ m ihm =>
        intro j hj
        have hjl:j<p[i].2.2.2.2.length:=by omega
        obtain ⟨q0,q1⟩:=hv i hl hl _ (List.getElem_mem hjl)
        refine Ev.step (fun k=>by rw [ref04_grow_l0]) ?_
        refine Ev.dT (by omega) (Ev.opt (getI_lt hjl) ?_)
        have:=ih p[i].2.2.2.2[j].toNat (by omega) (by omega)
        rw [Int.toNat_of_nonneg q0] at this
        refine Ev.bind this (Ev.opt (appL_ok (by simp; omega)) ?_)
        rw [wrap_nat (by omega)]
        have:=ihm (j+1) (by omega)
        rw [take_get' hjl,List.map_append,List.map_cons,List.map_nil,nodesL_getD (by omega) (by omega)] at this
        exact this
    simpa using loop p[i].2.2.2.2.length 0 (by omega)
section
variable {p:List Cell} (h0:p.length≠0) (h1:p.length≤8192) (hk:∀ c∈p,c.2.2.2.2.length≤1048576)
include h0 h1 hk
theorem ev_ropen_l2 (hv:Valid p p.length):∀ (m j:Nat),p.length=j+1+m→(∀ j',j' < j→(allK p).count (j':Int)=1)→Ev (fun K=>ref04_Open_l2 K p (cntOf p.length (allK p)) (j:Int)) (openT p):=by
  intro m
  induction m with
  | zero =>
    intro j hj hc
    refine Ev.step (fun k=>by rw [ref04_Open_l2]) ?_
    rw [wrap_id (by omega) (by omega)]
    refine Ev.dF (by omega) ?_
    rw [openT_good h0 h1 ⟨hv,fun j' hj'=>hc j' (by omega)⟩,show (p.length:Int) - 1=((p.length - 1:Nat):Int) by omega]
    exact Ev.bind (ev_grow hk hv p.length _ (by omega) (by omega)) Ev.pure
  | succ m ih =>
    intro j hj hc
    refine Ev.step (fun k=>by rw [ref04_Open_l2]) ?_
    rw [wrap_id (x:=(p.length:Int) - 1) (by omega) (by omega)]
    refine Ev.dT (by omega) (Ev.iteT ⟨by omega,by rw [cntOf_len]; omega⟩ (Ev.opt (cntOf_get (by omega) (by omega)) ?_))
    by_cases e:(allK p).count (j:Int)=1
    · rw [wrap_nat (by omega)]
      exact Ev.nF (by omega) (ih (j+1) (by omega) fun j' hj'=>by
        by_cases e':j'=j
        · rw [e']; exact e
        · exact hc j' (by omega))
    · exact Ev.nT (by omega) (Ev.pure' (openT_form h0 h1 fun h=>e (h.2 j (by omega))).symm)
theorem ev_ropen_l0:∀ (m i:Nat),p.length=i+m→Valid p i→Ev (fun K=>ref04_Open_l0 K p (cntOf p.length (allK (p.take i))) (i:Int)) (openT p):=by
  intro m
  induction m with
  | zero =>
    intro i hi hv
    refine Ev.step (fun k=>by rw [ref04_Open_l0]) ?_
    refine Ev.dF (by omega) ?_
    have e:i=p.length:=by omega
    subst e
    rw [List.take_length]
    exact ev_ropen_l2 h0 h1 hk hv (p.length - 1) 0 (by omega) fun j' hj'=>by omega
  | succ m ih =>
    intro i hi hv
    have hl:i<p.length:=by omega
    have hkk:=hk _ (List.getElem_mem hl)
    have hal:=allK_len hk i
    refine Ev.step (fun k=>by rw [ref04_Open_l0]) (Ev.dT (by omega) ?_)
    have loop:∀ (m' j:Nat),p[i].2.2.2.2.length=j+m'→(∀ k∈p[i].2.2.2.2.take j,0≤k∧k<i)→Ev (fun K=>ref04_Open_l1 K p (cntOf p.length (allK (p.take i)++p[i].2.2.2.2.take j)) (i:Int) (j:Int)) (openT p):=by
      intro m'
      induction m' with
      | zero =>
        intro j hj hg
        refine Ev.step (fun k=>by rw [ref04_Open_l1]) (Ev.opt (getI_lt hl) ?_)
        refine Ev.dF (by omega) ?_
        rw [wrap_nat (by omega),List.take_of_length_le (l:=p[i].2.2.2.2) (by omega),← allK_take hl]
        rw [List.take_of_length_le (l:=p[i].2.2.2.2) (by omega)] at hg
        refine ih (i+1) (by omega) fun i' h' hlt k hk'=>?_
        by_cases e:i'=i
        · subst e; exact hg k hk'
        · exact hv i' h' (by omega) k hk'
      | succ m' ihm =>
        intro j hj hg
        have hjl:j<p[i].2.2.2.2.length:=by omega
        refine Ev.step (fun k=>by rw [ref04_Open_l1]) (Ev.opt (getI_lt hl) ?_)
        refine Ev.dT (by omega) (Ev.opt (getI_lt hl) (Ev.opt (getI_lt hjl) ?_))
        refine Ev.d (fun e=>Ev.pure' (openT_bad h1 hl (List.getElem_mem hjl) (by omega)).symm) fun e=>?_
        refine Ev.d (fun e2=>Ev.pure' (openT_bad h1 hl (List.getElem_mem hjl) (by omega)).symm) fun e2=>?_
        have hcl:(allK (p.take i)++p[i].2.2.2.2.take j).count p[i].2.2.2.2[j]≤8192 * 1048576:=by
          refine Nat.le_trans List.count_le_length ?_
          rw [List.length_append,List.length_take]
          omega
        refine Ev.iteT ⟨by omega,by rw [cntOf_len]; omega⟩ (Ev.opt (cntOf_get (by omega) (by omega)) (Ev.iteT ⟨by omega,by rw [cntOf_len]; omega⟩ (Ev.opt (cntOf_get (by omega) (by omega)) ?_)))
        rw [wrap_nat (by omega),wrap_nat (by omega)]
        rw [show (((allK (p.take i)++p[i].2.2.2.2.take j).count p[i].2.2.2.2[j]+1:Nat):Int)=(((allK (p.take i)++p[i].2.2.2.2.take j).count p[i].2.2.2.2[j]:Nat):Int)+1 by omega,cntOf_set (by omega),← take_kids hjl]
        refine ihm (j+1) (by omega) fun k hk'=>?_
        rw [take_get' hjl] at hk'
        rcases List.mem_append.1 hk' with h | h
        · exact hg k h
        · rw [List.mem_singleton.1 h]; omega
    have:=loop p[i].2.2.2.2.length 0 (by omega) (by simp)
    simpa using this
end
theorem ev_ropen {p:List Cell} (hk:∀ c∈p,c.2.2.2.2.length≤1048576):Ev (fun K=>ref04_Open K p) (openT p):=by
  unfold ref04_Open
  by_cases h0:p.length=0
  · refine Ev.dT (by omega) (Ev.pure' ?_)
    unfold openT; rw [if_pos h0]
  refine Ev.dF (by omega) ?_
  by_cases h1:8192<p.length
  · refine Ev.dT (by omega) (Ev.pure' ?_)
    unfold openT; rw [if_neg h0,if_pos h1]
  refine Ev.dF (by omega) (Ev.opt (mkL_ok (by omega)) ?_)
  have:=ev_ropen_l0 h0 (by omega) hk p.length 0 (by omega) fun i _ hi=>by omega
  have e:cntOf p.length (allK (p.take 0))=List.replicate p.length 0:=by
    apply List.ext_getElem
    · simp [cntOf]
    · intro j h1 h2; simp [cntOf,allK]
  rw [e] at this
  exact this
end Go.Proofs.YtjhfgiieicloeaaGreatDoor

/- Plain facts of trees, part 4: an opened tree is whole and as large as its cells. -/
namespace Go.Proofs.YtjhfgiieicloeaaGreatDoor
open Go Go.Am Go.Sx
def rootsW (W:Nat→Nat) (seen:List Int) (i:Nat):Nat:=((List.range i).map fun j:Nat=>if (j:Int)∈seen then 0 else W j).sum
theorem rootsW_succ (W:Nat→Nat) (seen:List Int) (i:Nat):rootsW W seen (i+1)=rootsW W seen i+if (i:Int)∈seen then 0 else W i:=by
  unfold rootsW
  rw [List.range_succ,List.map_append,List.sum_append]
  simp
theorem rootsW_mark {W:Nat→Nat} {seen:List Int} {k:Int} (h0:0≤k) (hn:k∉seen):∀ i:Nat,rootsW W (seen++[k]) i+(if k<i then W k.toNat else 0)=rootsW W seen i:=by
  intro i
  induction i with
  | zero=>rw [if_neg (by omega)]; simp [rootsW]
  | succ i ih =>
    rw [rootsW_succ,rootsW_succ]
    by_cases e:k=(i:Int)
    · subst e
      rw [if_neg (by omega)] at ih
      rw [if_pos (by simp),if_pos (by omega),if_neg hn]
      simp only [Int.toNat_natCast]
      omega
    · have hm:((i:Int)∈seen++[k])↔(i:Int)∈seen:=by
        rw [List.mem_append,List.mem_singleton]
        exact ⟨fun h=>h.elim id fun h=>absurd h.symm e,.inl⟩
      simp only [hm]
      by_cases hlt:k<(i:Int)
      · rw [if_pos hlt] at ih; rw [if_pos (show k<((i+1:Nat):Int) by omega)]; omega
      · rw [if_neg hlt] at ih; rw [if_neg (show ¬ k<((i+1:Nat):Int) by omega)]; omega
theorem rootsW_marks {W:Nat→Nat} {i:Nat}:∀ (ks seen:List Int),(∀ k∈ks,0≤k∧k<i)→(seen++ks).Nodup→rootsW W (seen++ks) i+(ks.map fun k=>W k.toNat).sum=rootsW W seen i
  | [],seen,_,_=>by simp
  | k :: ks,seen,h,hn=>by
    have hk:=h k List.mem_cons_self
    have e:seen++k :: ks=(seen++[k])++ks:=by simp
    rw [e] at hn ⊢
    have h1:=rootsW_marks (W:=W) ks (seen++[k]) (fun x hx=>h x (List.mem_cons_of_mem _ hx)) hn
    have hns:k∉seen:=by
      have:=(List.nodup_append.1 hn).1
      intro hm
      exact (List.nodup_append.1 this).2.2 k hm k (by simp) rfl
    have h2:=rootsW_mark (W:=W) hk.1 hns i
    rw [if_pos hk.2] at h2
    rw [List.map_cons,List.sum_cons]
    omega
theorem wL_map {α:Type} (f:α→Tr):∀ l:List α,wL (l.map f)=(l.map fun x=>(f x).w).sum
  | []=>by simp [wL_nil]
  | x :: l=>by rw [List.map_cons,wL_cons,wL_map f l]; simp
theorem sum_zero:∀ l:List Nat,(l.map fun _=>0).sum=0
  | []=>rfl
  | _ :: l=>by rw [List.map_cons,List.sum_cons,sum_zero l]
section
variable {p:List Cell} (hv:Valid p p.length)
include hv
theorem kid_lt {i:Nat} (hi:i≤p.length):∀ k∈allK (p.take i),0≤k∧k+1<max i 1:=by
  induction i with
  | zero=>intro k hk; simp [allK] at hk
  | succ i ih =>
    intro k hk
    rw [allK_take (by omega)] at hk
    rcases List.mem_append.1 hk with h | h
    · have:=ih (by omega) k h; omega
    · have:=hv i (by omega) (by omega) k h; omega
theorem roots_are (hn:(allK p).Nodup):∀ i:Nat,i≤p.length→rootsW (fun j=>((nodesL p).getD j .nil).w) (allK (p.take i)) i=i:=by
  intro i
  induction i with
  | zero=>intro _; simp [rootsW]
  | succ i ih =>
    intro hi
    have hl:i<p.length:=by omega
    have hsub:(allK (p.take (i+1))).Nodup:=by
      have e:allK p=allK (p.take (i+1))++allK (p.drop (i+1)):=by rw [← allK_append,List.take_append_drop]
      rw [e] at hn
      exact (List.nodup_append.1 hn).1
    rw [rootsW_succ]
    have hni:(i:Int)∉allK (p.take (i+1)):=fun hm=>by
      have:=kid_lt hv hi _ hm; omega
    rw [if_neg hni,nodesL_at hl,w_node,wL_map]
    rw [allK_take hl] at hsub ⊢
    have hk:=hv i hl hl
    have:=rootsW_marks (W:=fun j=>((nodesL p).getD j .nil).w) p[i].2.2.2.2 (allK (p.take i)) hk hsub
    have hmap:(p[i].2.2.2.2.map fun k=>((nodesL (p.take i)).getD k.toNat .nil).w)=p[i].2.2.2.2.map fun k=>((nodesL p).getD k.toNat .nil).w:=by
      apply List.map_congr_left
      intro k hm
      have:=hk k hm
      rw [nodesL_getD (by omega) (by omega)]
    rw [hmap]
    have:=ih (by omega)
    omega
theorem nodup_of_once (hc:∀ j:Nat,j+1<p.length→(allK p).count (j:Int)=1):(allK p).Nodup:=by
  rw [List.nodup_iff_count]
  intro a
  by_cases hm:a∈allK p
  · have:=kid_lt hv (Nat.le_refl _) a (by rw [List.take_length]; exact hm)
    have h1:=hc a.toNat (by omega)
    rw [Int.toNat_of_nonneg this.1] at h1
    omega
  · rw [List.count_eq_zero.2 hm]; omega
theorem full_nodes:∀ n i:Nat,i<n→i<p.length→fullT ((nodesL p).getD i .nil)=true:=by
  intro n
  induction n with
  | zero=>intro i h; omega
  | succ n ih =>
    intro i hi hl
    rw [nodesL_at hl,fullT_node,fullL_mem]
    intro x hx
    obtain ⟨k,hk,rfl⟩:=List.mem_map.1 hx
    have:=hv i hl hl k hk
    rw [nodesL_getD (by omega) (by omega)]
    exact ih _ (by omega) (by omega)
end
theorem full_w:∀ t:Tr,fullT t=true→t.w=sizeT t:=Tr.ind (fun h=>by rw [fullT_nil] at h; cases h) fun k n nm mk ks ih h=>by
  rw [fullT_node,fullL_mem] at h
  rw [w_node,sizeT_node]
  have:∀ l:List Tr,(∀ x∈l,x.w=sizeT x)→wL l=sizeL l:=by
    intro l
    induction l with
    | nil=>intro _; simp [wL_nil,sizeL_nil]
    | cons x l ihl=>intro hh; rw [wL_cons,sizeL_cons,hh x List.mem_cons_self,ihl fun y hy=>hh y (List.mem_cons_of_mem _ hy)]
  rw [this ks fun x hx=>ih x hx (h x hx)]
theorem openT_cases (p:List Cell):((openT p).1=.nil∧(openT p).2≠0)∨((openT p).2=0∧p.length≠0∧p.length≤8192∧fullT (openT p).1=true∧sizeT (openT p).1=p.length∧(openT p).1.w=p.length ∧
    (openT p).1=(nodesL p).getD (p.length - 1) .nil∧Valid p p.length∧∀ j:Nat,j+1<p.length→(allK p).count (j:Int)=1):=by
  unfold openT
  by_cases h0:p.length=0
  · rw [if_pos h0]; exact .inl ⟨rfl,by decide⟩
  rw [if_neg h0]
  by_cases h1:8192<p.length
  · rw [if_pos h1]; exact .inl ⟨rfl,by decide⟩
  rw [if_neg h1]
  split
  · rename_i hg
    refine .inr ⟨rfl,h0,by omega,?_⟩
    have hn:=nodup_of_once hg.1 hg.2
    have hf:=full_nodes hg.1 p.length (p.length - 1) (by omega) (by omega)
    have hr:=roots_are hg.1 hn p.length (Nat.le_refl _)
    rw [List.take_length] at hr
    obtain ⟨n,hnl⟩:∃ n,p.length=n+1:=⟨p.length - 1,by omega⟩
    rw [hnl,rootsW_succ] at hr
    have hz:rootsW (fun j=>((nodesL p).getD j .nil).w) (allK p) n=0:=by
      unfold rootsW
      have:((List.range n).map fun j:Nat=>if (j:Int)∈allK p then 0 else ((nodesL p).getD j .nil).w)=(List.range n).map fun _=>0:=by
        apply List.map_congr_left
        intro j hj
        rw [List.mem_range] at hj
        have:=hg.2 j (by omega)
        rw [if_pos (List.count_pos_iff.1 (by omega))]
      rw [this]
      exact sum_zero _
    have hni:(n:Int)∉allK p:=fun hm=>by
      have:=kid_lt hg.1 (Nat.le_refl _) _ (by rw [List.take_length]; exact hm); omega
    rw [hz,if_neg hni] at hr
    have hw:((nodesL p).getD (p.length - 1) .nil).w=p.length:=by rw [hnl,Nat.add_sub_cancel]; omega
    exact ⟨hf,by rw [← full_w _ hf]; exact hw,hw,rfl,hg.1,hg.2⟩
  · exact .inl ⟨rfl,by decide⟩
theorem openT_w (p:List Cell):(openT p).1.w≤8192:=by
  rcases openT_cases p with ⟨h,_⟩ | h
  · rw [h]; decide
  · omega
end Go.Proofs.YtjhfgiieicloeaaGreatDoor

/- Shapes, part 1: what a tree of a category is, by the table. -/
namespace Go.Proofs.YtjhfgiieicloeaaGreatDoor
open Go Go.Am Go.Sx

inductive Good:Tr→Prop
  | mk {k n nm mk ks} (h1:nm.length≤1099511627776) (h2:mk.length≤1099511627776) (h3:ks.length≤1099511627776) (h4:∀ x∈ks,Good x):Good (.node k n nm mk ks)

abbrev Row:=Int×Int×List UInt8×List UInt8×Int×Int×List UInt8
def rows5:List Row:=([(1,1,([]:List UInt8),([]:List UInt8),0,0,([]:List UInt8)),(1,2,([]:List UInt8),([]:List UInt8),0,0,([]:List UInt8)),(1,3,([]:List UInt8),([]:List UInt8),0,0,([]:List UInt8)),(1,4,([108]:List UInt8),([]:List UInt8),0,0,([]:List UInt8)),(1,5,([]:List UInt8),([]:List UInt8),0,0,([116,116]:List UInt8)),(1,6,([]:List UInt8),([]:List UInt8),0,0,([116,116]:List UInt8)),(1,7,([110]:List UInt8),([]:List UInt8),0,0,([67]:List UInt8)),(2,20,([]:List UInt8),([]:List UInt8),(IntKind.i64.wrap (0 - 1073741824)),1073741824,([]:List UInt8)),(2,21,([]:List UInt8),([]:List UInt8),0,1,([]:List UInt8)),(2,22,([]:List UInt8),([]:List UInt8),0,0,([]:List UInt8)),(2,23,([108]:List UInt8),([]:List UInt8),0,0,([]:List UInt8)),(2,24,([110]:List UInt8),([]:List UInt8),0,0,([116,101]:List UInt8)),(2,25,([]:List UInt8),([]:List UInt8),0,0,([101,101]:List UInt8)),(2,26,([]:List UInt8),([]:List UInt8),0,0,([101,101]:List UInt8)),(2,27,([]:List UInt8),([]:List UInt8),0,0,([101]:List UInt8)),(2,28,([]:List UInt8),([]:List UInt8),0,0,([101]:List UInt8)),(2,29,([110]:List UInt8),([]:List UInt8),0,0,([101,101]:List UInt8)),(2,30,([]:List UInt8),([]:List UInt8),0,0,([101,101,101]:List UInt8)),(2,31,([]:List UInt8),([]:List UInt8),1,5,([101,101]:List UInt8)),(2,32,([]:List UInt8),([]:List UInt8),0,0,([101,65]:List UInt8)),(2,33,([]:List UInt8),([]:List UInt8),0,0,([101,116,65]:List UInt8)),(3,40,([]:List UInt8),([]:List UInt8),0,0,([42,105]:List UInt8)),(3,41,([108]:List UInt8),([]:List UInt8),0,0,([]:List UInt8)),(3,42,([110]:List UInt8),([]:List UInt8),0,0,([109]:List UInt8)),(3,43,([]:List UInt8),([]:List UInt8),0,1,([109,115]:List UInt8)),(4,50,([]:List UInt8),([]:List UInt8),0,0,([42,112]:List UInt8)),(4,51,([110]:List UInt8),([]:List UInt8),0,0,([]:List UInt8)),(4,52,([108]:List UInt8),([]:List UInt8),0,0,([115,116]:List UInt8)),(5,60,([110]:List UInt8),([]:List UInt8),0,0,([116]:List UInt8)),(5,61,([110]:List UInt8),([]:List UInt8),0,0,([116]:List UInt8)),(5,61,([110]:List UInt8),([]:List UInt8),0,0,([]:List UInt8)),(5,62,([110]:List UInt8),([]:List UInt8),0,0,([67]:List UInt8)),(5,63,([110]:List UInt8),([]:List UInt8),0,0,([115]:List UInt8)),(5,64,([]:List UInt8),([]:List UInt8),0,0,([115]:List UInt8)),(5,65,([108]:List UInt8),([108]:List UInt8),0,0,([]:List UInt8)),(6,70,([110]:List UInt8),([]:List UInt8),0,0,([101]:List UInt8)),(6,70,([110]:List UInt8),([]:List UInt8),0,0,([116,101]:List UInt8)),(6,71,([110]:List UInt8),([]:List UInt8),0,0,([116]:List UInt8)),(6,72,([110]:List UInt8),([]:List UInt8),0,0,([67]:List UInt8)),(6,73,([110]:List UInt8),([]:List UInt8),0,0,([109]:List UInt8)),(6,74,([110]:List UInt8),([]:List UInt8),0,0,([115]:List UInt8)),(6,75,([110]:List UInt8),([110]:List UInt8),0,0,([115,109]:List UInt8)),(6,76,([108]:List UInt8),([]:List UInt8),0,0,([]:List UInt8)),(6,77,([108]:List UInt8),([]:List UInt8),0,0,([]:List UInt8)),(7,80,([]:List UInt8),([]:List UInt8),0,0,([42,100]:List UInt8)),(8,8,([110]:List UInt8),([]:List UInt8),0,0,([116]:List UInt8)),(9,34,([110]:List UInt8),([110]:List UInt8),0,0,([101]:List UInt8))]:List (Int×Int×(List UInt8)×(List UInt8)×Int×Int×(List UInt8)))
theorem rows_len:rows5.length=47:=by decide

def wordS (s what:List UInt8):Bool:=if what=[110] then ckS s else if what=[108] then lgS s else decide (s=[])
def catS (c:UInt8):Int:=if c=116 then 1 else if c=101 then 2 else if c=109 then 3 else if c=115 then 4 else if c=112 then 5 else 6
def consGo (is8:Tr→Bool):List (List UInt8)→List Tr→Bool
  | _,[]=>true
  | seen,k :: ks=>is8 k && (!decide (nameOf k∈seen) && consGo is8 (seen++[nameOf k]) ks)
def notI (c:UInt8) (x:Tr):Bool:=!(decide (c=105) && (decide (kindOf x=74) || decide (kindOf x=75)))
def kidsS (is:Int→Tr→Bool):List UInt8→List Tr→Bool
  | [],l=>decide (l.length=0)
  | c :: w,l =>
    if c=42 then l.all fun x=>is (catS (w.headD 0)) x && notI (w.headD 0) x
    else if c=67 then consGo (is 8) [] l && decide (0<l.length)
    else if c=65 then l.all (is 9) && decide (0<l.length)
    else match l with
      | []=>false
      | k :: ks=>is (catS c) k && kidsS is w ks
def bodyS (is:Int→Tr→Bool) (n:Int) (nm mk:List UInt8) (ks:List Tr) (r:Row):Bool :=
  wordS nm r.2.2.1 && (wordS mk r.2.2.2.1 && (decide (r.2.2.2.2.1≤n) && (decide (n≤r.2.2.2.2.2.1) && kidsS is r.2.2.2.2.2.2 ks)))
def rowS (is:Int→Tr→Bool) (c:Int) (t:Tr) (r:Row):Bool:=match t with
  | .nil=>false
  | .node k n nm mk ks=>decide (r.1=c) && (decide (r.2.1=k) && bodyS is n nm mk ks r)
def isF:Nat→Int→Tr→Bool
  | 0,_,_=>false
  | m+1,c,t=>rows5.any (rowS (isF m) c t)
theorem consGo_congr {f g:Tr→Bool}:∀ (l:List Tr) (s:List (List UInt8)),(∀ x∈l,f x=g x)→consGo f s l=consGo g s l
  | [],_,_=>rfl
  | k :: ks,s,h=>by
    unfold consGo
    rw [h k List.mem_cons_self,consGo_congr ks _ fun x hx=>h x (List.mem_cons_of_mem _ hx)]
theorem all_congr' {f g:Tr→Bool}:∀ (l:List Tr),(∀ x∈l,f x=g x)→l.all f=l.all g
  | [],_=>rfl
  | k :: ks,h=>by rw [List.all_cons,List.all_cons,h k List.mem_cons_self,all_congr' ks fun x hx=>h x (List.mem_cons_of_mem _ hx)]
theorem kidsS_congr {f g:Int→Tr→Bool}:∀ (w:List UInt8) (l:List Tr),(∀ x∈l,∀ c,f c x=g c x)→kidsS f w l=kidsS g w l
  | [],_,_=>rfl
  | c :: w,l,h=>by
    unfold kidsS
    split
    · exact all_congr' l fun x hx=>by rw [h x hx]
    · split
      · rw [consGo_congr l [] fun x hx=>h x hx 8]
      · split
        · rw [all_congr' l fun x hx=>h x hx 9]
        · cases l with
          | nil=>rfl
          | cons k ks=>simp only []; rw [h k List.mem_cons_self,kidsS_congr w ks fun x hx=>h x (List.mem_cons_of_mem _ hx)]
theorem rowS_congr {f g:Int→Tr→Bool} {c k n:Int} {nm mk:List UInt8} {ks:List Tr} (h:∀ x∈ks,∀ c,f c x=g c x) (r:Row):rowS f c (.node k n nm mk ks) r=rowS g c (.node k n nm mk ks) r:=by
  unfold rowS bodyS
  simp only []
  rw [kidsS_congr _ _ h]
theorem isF_fuel:∀ (m m':Nat) (t:Tr) (c:Int),t.w≤m→t.w≤m'→isF m c t=isF m' c t:=by
  intro m
  induction m with
  | zero=>intro m' t c h; have:=w_pos t; omega
  | succ m ih =>
    intro m' t c h h'
    have:=w_pos t
    obtain ⟨q,rfl⟩:∃ q,m'=q+1:=⟨m' - 1,by omega⟩
    unfold isF
    congr 1
    funext r
    cases t with
    | nil=>rfl
    | node k n nm mk ks =>
      rw [w_node] at h h'
      exact rowS_congr (fun x hx c=>ih q x c (by have:=wL_mem hx; omega) (by have:=wL_mem hx; omega)) r
def isT (c:Int) (t:Tr):Bool:=isF t.w c t
theorem isT_eq (c:Int) (t:Tr):isT c t=rows5.any (rowS isT c t):=by
  have:=w_pos t
  obtain ⟨q,hq⟩:∃ q,t.w=q+1:=⟨t.w - 1,by omega⟩
  show isF t.w c t=rows5.any (rowS isT c t)
  rw [hq]
  show rows5.any (rowS (isF q) c t)=_
  congr 1
  funext r
  cases t with
  | nil=>rfl
  | node k n nm mk ks =>
    rw [w_node] at hq
    exact rowS_congr (ks:=ks) (fun x hx c=>isF_fuel q x.w x c (by have:=wL_mem hx; omega) (Nat.le_refl _)) r
def sel (c k:Int):List Row:=rows5.filter fun r=>decide (r.1=c) && decide (r.2.1=k)
theorem any_sel (f:Row→Bool) (c k:Int):∀ l:List Row,(l.any fun r=>decide (r.1=c) && (decide (r.2.1=k) && f r))=(l.filter fun r=>decide (r.1=c) && decide (r.2.1=k)).any f
  | []=>rfl
  | r :: l=>by
    rw [List.any_cons,List.filter_cons,any_sel f c k l]
    cases h1:decide (r.1=c) <;> cases h2:decide (r.2.1=k) <;> simp
theorem isT_sel {c k n:Int} {nm mk:List UInt8} {ks:List Tr}:isT c (.node k n nm mk ks)=(sel c k).any (bodyS isT n nm mk ks):=by
  rw [isT_eq]
  exact any_sel _ c k rows5
def kindsOf (c:Int):List Int:=(rows5.filter fun r=>decide (r.1=c)).map fun r=>r.2.1
theorem sel_none {c k:Int} (h:k∉kindsOf c):sel c k=[]:=by
  unfold sel
  rw [List.filter_eq_nil_iff]
  intro r hr hx
  simp only [Bool.and_eq_true,decide_eq_true_eq] at hx
  apply h
  unfold kindsOf
  rw [List.mem_map]
  exact ⟨r,List.mem_filter.2 ⟨hr,by simp [hx.1]⟩,hx.2⟩
theorem isT_none {c k n:Int} {nm mk:List UInt8} {ks:List Tr} (h:k∉kindsOf c):isT c (.node k n nm mk ks)=false:=by
  rw [isT_sel,sel_none h]; rfl
theorem isT_nil (c:Int):isT c .nil=false:=by
  rw [isT_eq]
  exact List.any_eq_false.2 fun r _=>by simp [rowS]
end Go.Proofs.YtjhfgiieicloeaaGreatDoor

/- Shapes, part 2: the document's answer is the table's. -/
namespace Go.Proofs.YtjhfgiieicloeaaGreatDoor
open Go Go.Am Go.Sx

theorem ev_word5 (s what:List UInt8) (hs:s.length≤1099511627776):Ev (fun K=>ref05_word K s what) (wordS s what):=by
  refine Ev.congr (f:=fun K=>_) ?_ (fun K=>by rw [ref05_word])
  unfold wordS
  refine Ev.d (fun h=>?_) (fun h=>Ev.d (fun h'=>?_) (fun h'=>?_))
  · rw [if_pos h]; exact Ev.ret (ev_check2 s hs)
  · rw [if_neg h,if_pos h']; exact Ev.ret (ev_long2 s)
  · rw [if_neg h,if_neg h']; exact Ev.pure
theorem u8_eq {a b:UInt8}:((a.toNat:Nat):Int)=((b.toNat:Nat):Int)↔a=b:=by
  rw [Int.ofNat_inj]; exact UInt8.toNat_inj
theorem u8_ne {a b:UInt8} (h:¬ ((a.toNat:Nat):Int)=((b.toNat:Nat):Int)):¬ b=a:=fun e=>h (by rw [e])
theorem ev_cat (c:UInt8):Ev (fun K=>ref05_cat K ((c.toNat:Nat):Int)) (catS c):=by
  refine Ev.congr (f:=fun K=>_) ?_ (fun K=>by rw [ref05_cat])
  unfold catS
  refine Ev.step (fun k=>by rw [ref05_cat_l0]) ?_
  refine Ev.dT (by omega) (Ev.opt (a:=116) rfl (Ev.d (fun h=>?_) (fun h=>?_)))
  · rw [if_pos (u8_eq.1 h).symm]; exact Ev.pure
  rw [if_neg (u8_ne h)]
  refine Ev.step (fun k=>by rw [ref05_cat_l0]) ?_
  refine Ev.dT (by decide) (Ev.opt (a:=101) rfl (Ev.d (fun h=>?_) (fun h=>?_)))
  · rw [if_pos (u8_eq.1 h).symm]; exact Ev.pure
  rw [if_neg (u8_ne h)]
  refine Ev.step (fun k=>by rw [ref05_cat_l0]) ?_
  refine Ev.dT (by decide) (Ev.opt (a:=109) rfl (Ev.d (fun h=>?_) (fun h=>?_)))
  · rw [if_pos (u8_eq.1 h).symm]; exact Ev.pure
  rw [if_neg (u8_ne h)]
  refine Ev.step (fun k=>by rw [ref05_cat_l0]) ?_
  refine Ev.dT (by decide) (Ev.opt (a:=115) rfl (Ev.d (fun h=>?_) (fun h=>?_)))
  · rw [if_pos (u8_eq.1 h).symm]; exact Ev.pure
  rw [if_neg (u8_ne h)]
  refine Ev.step (fun k=>by rw [ref05_cat_l0]) ?_
  refine Ev.dT (by decide) (Ev.opt (a:=112) rfl (Ev.d (fun h=>?_) (fun h=>?_)))
  · rw [if_pos (u8_eq.1 h).symm]; exact Ev.pure
  rw [if_neg (u8_ne h)]
  refine Ev.step (fun k=>by rw [ref05_cat_l0]) ?_
  refine Ev.dT (by decide) (Ev.opt (a:=100) rfl (Ev.d (fun h=>?_) (fun h=>?_)))
  · exact Ev.pure
  exact Ev.step (fun k=>by rw [ref05_cat_l0]) (Ev.dF (by decide) Ev.pure)

def okP:List UInt8→Bool
  | []=>true
  | c :: w=>(!decide (c=42) || !decide (w=[])) && okP w
theorem rows_okP:∀ r∈rows5,okP r.2.2.2.2.2.2=true:=by decide

section
variable {l:List Tr} (hl:l.length≤1099511627776) (hg:∀ x∈l,Good x) (ih:∀ x∈l,∀ c,Ev (fun K=>ref05_Is K x c) (isT c x))
include hl hg ih
theorem ev_star {w:List UInt8} (hw:w≠[]):∀ (m i:Nat),l.length=i+m →
    Ev (fun K=>ref05_kids_l0 K l (42 :: w) (i:Int)) ((l.drop i).all fun x=>isT (catS (w.headD 0)) x && notI (w.headD 0) x):=by
  obtain ⟨d,w',rfl⟩:∃ d w',w=d :: w':=by cases w with
    | nil=>exact absurd rfl hw
    | cons d w'=>exact ⟨d,w',rfl⟩
  simp only [List.headD_cons]
  intro m
  induction m with
  | zero =>
    intro i hi
    refine Ev.step (fun k=>by rw [ref05_kids_l0]) ?_
    refine Ev.dF (by omega) (Ev.pure' ?_)
    rw [List.drop_of_length_le (by omega)]; rfl
  | succ m ihm =>
    intro i hi
    have hlt:i<l.length:=by omega
    have nx:=ihm (i+1) (by omega)
    rw [drop_get hlt,List.all_cons]
    refine Ev.step (fun k=>by rw [ref05_kids_l0]) ?_
    refine Ev.dT (by omega) (Ev.opt (getI_lt hlt) (Ev.opt (a:=d) rfl (Ev.bind (ev_cat d) (Ev.bind (ih _ (List.getElem_mem hlt) _) ?_))))
    rw [wrap_nat (by omega)]
    refine Ev.is (fun h=>Ev.pure' ?_) (fun h=>?_)
    · simp only [Bool.not_eq_true'] at h; rw [h]; rfl
    simp only [Bool.not_eq_false'] at h
    rw [h,Bool.true_and]
    refine Ev.opt (a:=d) rfl (Ev.d (fun h1=>?_) (fun h1=>?_))
    · have hd:d=105:=u8_eq.1 h1
      refine Ev.opt (getI_lt hlt) ?_
      have hgx:=hg _ (List.getElem_mem hlt)
      have hgi:=getI_lt hlt
      generalize l[i]=x at *
      cases hgx with
      | @mk k n nm mk ks =>
        refine Ev.d (fun h2=>Ev.pure' ?_) (fun h2=>?_)
        · simp [notI,kindOf,hd,h2]
        refine Ev.opt hgi (Ev.d (fun h3=>Ev.pure' ?_) (fun h3=>?_))
        · simp [notI,kindOf,hd,h3]
        rw [show notI d (Tr.node k n nm mk ks)=true by simp [notI,kindOf,h2,h3],Bool.true_and]
        exact nx
    · rw [show notI d l[i]=true by simp only [notI,decide_eq_false (fun e:d=105=>h1 (by rw [e]; rfl))]; rfl,Bool.true_and]
      exact nx
theorem ev_arms (w:List UInt8):∀ (m i:Nat),l.length=i+m→Ev (fun K=>ref05_kids_l1 K l (65 :: w) (i:Int)) ((l.drop i).all (isT 9) && decide (0<l.length)):=by
  have _:=hg
  intro m
  induction m with
  | zero =>
    intro i hi
    refine Ev.step (fun k=>by rw [ref05_kids_l1]) ?_
    refine Ev.dF (by omega) (Ev.pure' ?_)
    rw [List.drop_of_length_le (by omega)]
    simp
  | succ m ihm =>
    intro i hi
    have hlt:i<l.length:=by omega
    have nx:=ihm (i+1) (by omega)
    rw [drop_get hlt,List.all_cons]
    refine Ev.step (fun k=>by rw [ref05_kids_l1]) ?_
    refine Ev.dT (by omega) (Ev.opt (a:=65) rfl (Ev.dT (by decide) (Ev.opt (getI_lt hlt) (Ev.bind (ih _ (List.getElem_mem hlt) _) ?_))))
    refine Ev.is (fun h=>Ev.pure' ?_) (fun h=>?_)
    · simp only [Bool.not_eq_true'] at h; rw [h]; rfl
    simp only [Bool.not_eq_false'] at h
    rw [h,Bool.true_and]
    refine Ev.opt (a:=65) rfl (Ev.dF (by decide) ?_)
    have st:Ev (fun K=>ref05_kids_l2 K l (65 :: w) (i:Int) 0) ((l.drop (i+1)).all (isT 9) && decide (0<l.length)):=by
      refine Ev.step (fun k=>by rw [ref05_kids_l2]) ?_
      rw [wrap_nat (by omega)]
      exact Ev.d (fun _=>Ev.opt (a:=(65:UInt8)) rfl (Ev.dF (by decide) nx)) (fun _=>nx)
    exact st
theorem ev_seen (w:List UInt8) {i:Nat} (hi:i<l.length) {b:Bool} (hb:Ev (fun K=>ref05_kids_l1 K l (67 :: w) ((i+1:Nat):Int)) b):∀ (m j:Nat),i=j+m →
    Ev (fun K=>ref05_kids_l2 K l (67 :: w) (i:Int) (j:Int)) (!decide (nameOf l[i]∈((l.take i).drop j).map nameOf) && b):=by
  have _:=ih
  intro m
  induction m with
  | zero =>
    intro j hj
    refine Ev.step (fun k=>by rw [ref05_kids_l2]) ?_
    refine Ev.dF (by omega) ?_
    rw [wrap_nat (by omega)]
    refine Ev.cast hb ?_
    rw [List.drop_of_length_le (by simp; omega)]
    simp
  | succ m ihm =>
    intro j hj
    have hjl:j<l.length:=by omega
    have hjt:j<(l.take i).length:=by simp; omega
    have nx:=ihm (j+1) (by omega)
    rw [drop_get hjt,List.map_cons,List.getElem_take]
    have g1:=getI_lt hjl
    have g2:=getI_lt hi
    have e1:=hg _ (List.getElem_mem hjl)
    have e2:=hg _ (List.getElem_mem hi)
    generalize l[j]=x at *
    generalize l[i]=y at *
    cases e1 with
    | @mk k n nm mk ks =>
      cases e2 with
      | @mk k' n' nm' mk' ks' =>
        refine Ev.step (fun k=>by rw [ref05_kids_l2]) ?_
        refine Ev.dT (by omega) (Ev.opt (a:=67) rfl (Ev.dT (by decide) (Ev.opt g1 (Ev.opt g2 (Ev.d (fun h=>Ev.pure' ?_) (fun h=>?_))))))
        · simp [nameOf,h]
        · rw [wrap_nat (by omega)]
          refine Ev.cast nx ?_
          rw [show (decide (nameOf (Tr.node k' n' nm' mk' ks')∈nameOf (Tr.node k n nm mk ks) :: ((l.take i).drop (j+1)).map nameOf))=decide (nameOf (Tr.node k' n' nm' mk' ks')∈((l.take i).drop (j+1)).map nameOf) from by
            congr 1
            rw [List.mem_cons]
            simp only [nameOf,eq_iff_iff]
            exact ⟨fun h'=>h'.resolve_left fun e=>h e.symm,.inr⟩]
theorem ev_cons5 (w:List UInt8):∀ (m i:Nat),l.length=i+m→Ev (fun K=>ref05_kids_l1 K l (67 :: w) (i:Int)) (consGo (isT 8) ((l.take i).map nameOf) (l.drop i) && decide (0<l.length)):=by
  intro m
  induction m with
  | zero =>
    intro i hi
    refine Ev.step (fun k=>by rw [ref05_kids_l1]) ?_
    refine Ev.dF (by omega) (Ev.pure' ?_)
    rw [List.drop_of_length_le (by omega)]
    simp [consGo]
  | succ m ihm =>
    intro i hi
    have hlt:i<l.length:=by omega
    have nx:=ihm (i+1) (by omega)
    rw [drop_get hlt]
    unfold consGo
    rw [take_get' hlt,List.map_append] at nx
    have st:=ev_seen hl hg ih w hlt nx i 0 (by omega)
    rw [List.drop_zero] at st
    refine Ev.step (fun k=>by rw [ref05_kids_l1]) ?_
    refine Ev.dT (by omega) (Ev.opt (a:=67) rfl (Ev.dF (by decide) (Ev.opt (a:=67) rfl (Ev.dT (by decide) (Ev.opt (getI_lt hlt) (Ev.bind (ih _ (List.getElem_mem hlt) _) ?_))))))
    refine Ev.is (fun h=>Ev.pure' ?_) (fun h=>?_)
    · simp only [Bool.not_eq_true'] at h; rw [h]; rfl
    simp only [Bool.not_eq_false'] at h
    rw [h,Bool.true_and,Bool.and_assoc]
    exact st
end
theorem sub_tailT {α:Type} {k:α} {path:List α}:subL (k :: path) 1 ((((k :: path).length:Nat):Int))=some path:=by
  have:=subL_ok (l:=k :: path) (a:=1) (b:=(k :: path).length) (by simp) (Nat.le_refl _)
  rw [List.take_length] at this
  exact this
theorem ev_kids5:∀ (w:List UInt8) (l:List Tr),okP w=true→l.length≤1099511627776→(∀ x∈l,Good x)→(∀ x∈l,∀ c,Ev (fun K=>ref05_Is K x c) (isT c x))→Ev (fun K=>ref05_kids K l w) (kidsS isT w l)
  | [],l,_,_,_,_=>by
    refine Ev.step (fun k=>by rw [ref05_kids]) ?_
    refine Ev.dT rfl (Ev.pure' ?_)
    unfold kidsS
    simp
  | c :: w,l,hp,hl,hg,ih=>by
    unfold okP at hp
    rw [Bool.and_eq_true] at hp
    refine Ev.step (fun k=>by rw [ref05_kids]) ?_
    refine Ev.dF (by simp) (Ev.opt (a:=c) rfl (Ev.d (fun h=>?_) (fun h=>Ev.opt (a:=c) rfl (Ev.d (fun h2=>?_) (fun h2=>Ev.opt (a:=c) rfl (Ev.d (fun h3=>?_) (fun h3=>?_)))))))
    · have e:c=42:=u8_eq.1 h
      subst e
      unfold kidsS
      rw [if_pos rfl]
      have:=ev_star hl hg ih (w:=w) (by simpa using hp.1) l.length 0 (by omega)
      simpa using this
    · have e:c=67:=u8_eq.1 h2
      subst e
      unfold kidsS
      rw [if_neg (by decide),if_pos rfl]
      have:=ev_cons5 hl hg ih w l.length 0 (by omega)
      simpa using this
    · have e:c=65:=u8_eq.1 h3
      subst e
      unfold kidsS
      rw [if_neg (by decide),if_neg (by decide),if_pos rfl]
      have:=ev_arms hl hg ih w l.length 0 (by omega)
      simpa using this
    · unfold kidsS
      rw [if_neg (fun e=>h (by rw [e]; rfl)),if_neg (fun e=>h2 (by rw [e]; rfl)),if_neg (fun e=>h3 (by rw [e]; rfl))]
      cases l with
      | nil=>exact Ev.dF (by simp) Ev.pure
      | cons k ks =>
        refine Ev.dT (by simp) (Ev.opt (a:=k) rfl (Ev.opt (a:=c) rfl (Ev.bind (ev_cat c) (Ev.andB (ih k List.mem_cons_self _) fun _=>?_))))
        refine Ev.opt (a:=ks) sub_tailT (Ev.opt (a:=w) sub_tailT (Ev.ret (ev_kids5 w ks hp.2 (by simp at hl; omega) (fun x hx=>hg x (List.mem_cons_of_mem _ hx)) (fun x hx=>ih x (List.mem_cons_of_mem _ hx)))))

theorem ev_is5:∀ t:Tr,Good t→∀ c,Ev (fun K=>ref05_Is K t c) (isT c t):=Tr.ind
  (fun h=>by cases h)
  fun k n nm mk ks ih h c=>by
    cases h with
    | mk h1 h2 h3 h4 =>
      refine Ev.step (fun k=>by rw [ref05_Is]) ?_
      refine Ev.bind (a:=rows5) ⟨0,fun _ _=>rfl⟩ ?_
      rw [isT_eq]
      have loop:∀ (m i:Nat),rows5.length=i+m→Ev (fun K=>ref05_Is_l0 K (.node k n nm mk ks) c rows5 (i:Int)) ((rows5.drop i).any (rowS isT c (.node k n nm mk ks))):=by
        intro m
        induction m with
        | zero =>
          intro i hi
          refine Ev.step (fun k=>by rw [ref05_Is_l0]) ?_
          refine Ev.dF (by omega) (Ev.pure' ?_)
          rw [List.drop_of_length_le (by omega)]; rfl
        | succ m ihm =>
          intro i hi
          have hlt:i<rows5.length:=by omega
          have nx:=ihm (i+1) (by omega)
          have hr:=rows_okP _ (List.getElem_mem hlt)
          have hlen:=rows_len
          rw [drop_get hlt,List.any_cons]
          refine Ev.step (fun k=>by rw [ref05_Is_l0]) ?_
          refine Ev.dT (by omega) (Ev.opt (getI_lt hlt) ?_)
          rw [wrap_nat (by omega)]
          generalize rows5[i]=r at *
          have no:rowS isT c (.node k n nm mk ks) r=false→Ev (fun K=>ref05_Is_l0 K (.node k n nm mk ks) c rows5 ((i+1:Nat):Int)) (rowS isT c (.node k n nm mk ks) r || (rows5.drop (i+1)).any (rowS isT c (.node k n nm mk ks))):=fun e=>by rw [e,Bool.false_or]; exact nx
          refine Ev.d (fun a1=>?_) (fun a1=>no (by simp [rowS,a1]))
          refine Ev.d (fun a2=>?_) (fun a2=>no (by simp [rowS,a2]))
          refine Ev.bind (ev_word5 nm _ h1) (Ev.is (fun a3=>?_) (fun a3=>no (by simp [rowS,bodyS,a3])))
          refine Ev.bind (ev_word5 mk _ h2) (Ev.is (fun a4=>?_) (fun a4=>no (by simp [rowS,bodyS,a4])))
          refine Ev.d (fun a5=>?_) (fun a5=>no (by simp [rowS,bodyS,a5]))
          refine Ev.d (fun a6=>?_) (fun a6=>no (by simp [rowS,bodyS,a6]))
          refine Ev.bind (ev_kids5 _ ks hr h3 h4 fun x hx c=>ih x hx (h4 x hx) c) (Ev.is (fun a7=>Ev.pure' ?_) (fun a7=>no (by simp [rowS,bodyS,a7])))
          simp [rowS,bodyS,a1,a2,a3,a4,a5,a6,a7]
      have:=loop rows5.length 0 (by omega)
      simpa using this
end Go.Proofs.YtjhfgiieicloeaaGreatDoor

/- Shapes, part 3: the program's types and expressions are the table's. -/
namespace Go.Proofs.YtjhfgiieicloeaaGreatDoor
open Go Go.Am Go.Sx

def bareS (a b c:Bool) (n:Int) (nm mk:List UInt8):Bool:=(a || decide (nm=[])) && ((b || decide (mk=[])) && (c || decide (n=0)))
theorem ev_bare (a b c:Bool) (k n:Int) (nm mk:List UInt8) (ks:List Tr):Ev (fun K=>shape_bare K (.node k n nm mk ks) a b c) (bareS a b c n nm mk):=by
  refine Ev.congr (f:=fun K=>_) ?_ (fun K=>by rw [shape_bare])
  unfold bareS
  cases a <;> cases b <;> cases c <;> simp only [iteS] <;> first
    | exact Ev.pure' (by simp)
    | (by_cases h:nm=[] <;> by_cases h':mk=[] <;> simp only [h,h',decide_true,decide_false] <;> exact Ev.pure' (by simp))

def k1S (p:Tr→Bool):List Tr→Bool
  | [x]=>p x
  | _=>false
def k2S (p q:Tr→Bool):List Tr→Bool
  | [x,y]=>p x && q y
  | _=>false
section
variable {is:Int→Tr→Bool}
theorem kidsS_1 {a:UInt8} {c:Int} (h1:a≠42) (h2:a≠67) (h3:a≠65) (hc:catS a=c) (l:List Tr):kidsS is [a] l=k1S (is c) l:=by
  subst hc
  unfold kidsS
  rw [if_neg h1,if_neg h2,if_neg h3]
  match l with
  | []=>rfl
  | [x]=>simp [kidsS,k1S]
  | x :: y :: r=>simp [kidsS,k1S]
theorem kidsS_2 {a b:UInt8} {c d:Int} (h1:a≠42) (h2:a≠67) (h3:a≠65) (g1:b≠42) (g2:b≠67) (g3:b≠65) (hc:catS a=c) (hd:catS b=d) (l:List Tr):kidsS is [a,b] l=k2S (is c) (is d) l:=by
  subst hc hd
  unfold kidsS
  rw [if_neg h1,if_neg h2,if_neg h3]
  match l with
  | []=>rfl
  | [x]=>simp [kidsS_1 g1 g2 g3 rfl,k1S,k2S]
  | [x,y]=>simp [kidsS_1 g1 g2 g3 rfl,k1S,k2S]
  | x :: y :: z :: r=>simp [kidsS_1 g1 g2 g3 rfl,k1S,k2S]
end
theorem ev_k0 (k n:Int) (nm mk:List UInt8) (ks:List Tr):Ev (fun K=>shape_kids K (.node k n nm mk ks)) (decide (ks.length=0)):=by
  refine Ev.congr (f:=fun K=>_) ?_ (fun K=>by rw [shape_kids])
  refine Ev.n (fun h=>Ev.pure' ?_) (fun h=>Ev.step (fun k=>by rw [shape_kids_l0]) (Ev.pure' ?_))
  · rw [decide_eq_false (by omega)]
  · rw [decide_eq_true (by omega)]
section
variable {ks:List Tr}
theorem ev_k1 {f:Nat→Tr→Option Bool} {p:Tr→Bool} (h:∀ x∈ks,Ev (fun K=>f K x) (p x)) :
    Ev (fun K=>iteS (!decide (((ks.length:Nat):Int)=1)) (some false) ((getI ks 0).bind fun v6=>((f K v6).bind fun v7=>(iteS (!v7) (some false) (some true))))) (k1S p ks):=by
  match ks,h with
  | [],_=>exact Ev.nT (by simp) Ev.pure
  | [x],h=>exact Ev.nF (by simp) (Ev.opt (a:=x) rfl (Ev.cast (Ev.andN (h x (by simp)) fun _=>Ev.pure) (by simp [k1S])))
  | x :: y :: r,_=>exact Ev.nT (by simp; omega) Ev.pure
theorem ev_k2 {f g:Nat→Tr→Option Bool} {p q:Tr→Bool} (h:∀ x∈ks,Ev (fun K=>f K x) (p x)) (h':∀ x∈ks,Ev (fun K=>g K x) (q x)) :
    Ev (fun K=>iteS (!decide (((ks.length:Nat):Int)=2)) (some false) ((getI ks 0).bind fun v6=>((f K v6).bind fun v7=>(iteS (!v7) (some false) ((getI ks 1).bind fun v8=>((g K v8).bind fun v9=>(iteS (!v9) (some false) (some true)))))))) (k2S p q ks):=by
  match ks,h,h' with
  | [],_,_=>exact Ev.nT (by simp) Ev.pure
  | [x],_,_=>exact Ev.nT (by simp) Ev.pure
  | [x,y],h,h'=>exact Ev.nF (by simp) (Ev.opt (a:=x) rfl (Ev.cast (Ev.andN (h x (by simp)) fun _=>Ev.opt (a:=y) rfl (Ev.andN (h' y (by simp)) fun _=>Ev.pure)) (by simp [k2S])))
  | x :: y :: z :: r,_,_=>exact Ev.nT (by simp; omega) Ev.pure
theorem ev_loop {L:Nat→List Tr→Int→Option Bool} {f:Nat→Tr→Option Bool} {p:Tr→Bool}
    (hL:∀ k l i,L (k+1) l i=iteS (decide (i<((l.length:Nat):Int))) ((getI l i).bind fun v8=>((f k v8).bind fun v9=>(iteS (!v9) (some false) (L k l (IntKind.i64.wrap (i+1)))))) (some true))
    (hl:ks.length≤1099511627776) (h:∀ x∈ks,Ev (fun K=>f K x) (p x)):∀ (m i:Nat),ks.length=i+m→Ev (fun K=>L K ks (i:Int)) ((ks.drop i).all p):=by
  intro m
  induction m with
  | zero =>
    intro i hi
    refine Ev.step (fun k=>by rw [hL]) ?_
    refine Ev.dF (by omega) (Ev.pure' ?_)
    rw [List.drop_of_length_le (by omega)]; rfl
  | succ m ihm =>
    intro i hi
    have hlt:i<ks.length:=by omega
    rw [drop_get hlt,List.all_cons]
    refine Ev.step (fun k=>by rw [hL]) ?_
    refine Ev.dT (by omega) (Ev.opt (getI_lt hlt) (Ev.andN (h _ (List.getElem_mem hlt)) fun _=>?_))
    rw [wrap_nat (by omega)]
    exact ihm (i+1) (by omega)
theorem ev_from {L:Nat→List Tr→Int→Option Bool} {f:Nat→Tr→Option Bool} {p:Tr→Bool}
    (hL:∀ k l i,L (k+1) l i=iteS (decide (i<((l.length:Nat):Int))) ((getI l i).bind fun v8=>((f k v8).bind fun v9=>(iteS (!v9) (some false) (L k l (IntKind.i64.wrap (i+1)))))) (some true))
    (hl:ks.length≤1099511627776) (h:∀ x∈ks,Ev (fun K=>f K x) (p x)) {from':Nat} (hf:from'≤ks.length) :
    Ev (fun K=>(subL ks (from':Int) ((ks.length:Nat):Int)).bind fun v6=>L K v6 0) ((ks.drop from').all p):=by
  refine Ev.opt (subL_ok hf (Nat.le_refl _)) ?_
  rw [List.take_length]
  have:=ev_loop (ks:=ks.drop from') hL (by simp; omega) (fun x hx=>h x (List.mem_of_mem_drop hx)) (ks.drop from').length 0 (by omega)
  simpa using this
end
theorem between {n:Int}:(decide (0≤n) && decide (n≤0))=decide (n=0):=by
  by_cases h:n=0
  · simp [h]
  · rw [decide_eq_false h]
    by_cases h':0≤n
    · rw [decide_eq_false (show ¬ n≤0 by omega),Bool.and_false]
    · rw [decide_eq_false h',Bool.false_and]
theorem between1 {n:Int}:(decide (0≤n) && decide (n≤1))=(decide (n=0) || decide (n=1)):=by
  by_cases h:n=0
  · simp [h]
  · by_cases h1:n=1
    · simp [h1]
    · rw [decide_eq_false h,decide_eq_false h1]
      by_cases h':0≤n
      · rw [decide_eq_false (show ¬ n≤1 by omega),Bool.and_false]; rfl
      · rw [decide_eq_false h',Bool.false_and]; rfl
theorem wordS_e (s:List UInt8):wordS s []=decide (s=[]):=rfl
theorem wordS_n (s:List UInt8):wordS s [110]=ckS s:=rfl
theorem wordS_l (s:List UInt8):wordS s [108]=lgS s:=rfl

theorem isT_row {c k n:Int} {nm mk:List UInt8} {ks:List Tr} {r:Row} (h:sel c k=[r]):isT c (.node k n nm mk ks)=bodyS isT n nm mk ks r:=by
  rw [isT_sel,h]; simp
theorem isT_rows {c k n:Int} {nm mk:List UInt8} {ks:List Tr} {r r':Row} (h:sel c k=[r,r']):isT c (.node k n nm mk ks)=(bodyS isT n nm mk ks r || bodyS isT n nm mk ks r'):=by
  rw [isT_sel,h]; simp
theorem isT_con {k n:Int} {nm mk:List UInt8} {ks:List Tr}:isT 8 (.node k n nm mk ks)=(decide (k=8) && (bareS true false false n nm mk && (ckS nm && k1S (isT 1) ks))):=by
  by_cases h:k=8
  · subst h
    rw [isT_row (r:=(8,8,[110],[],0,0,[116])) rfl]
    simp only [bodyS,wordS_n,wordS_e,kidsS_1 (a:=116) (c:=1) (by decide) (by decide) (by decide) rfl,bareS,← between]
    cases ckS nm <;> simp [Bool.and_assoc]
  · rw [isT_none (by simpa [show kindsOf 8=[8] from rfl] using h),decide_eq_false h]; rfl
theorem isT_arm {k n:Int} {nm mk:List UInt8} {ks:List Tr}:isT 9 (.node k n nm mk ks)=(decide (k=34) && (bareS true true false n nm mk && (ckS nm && (ckS mk && k1S (isT 2) ks)))):=by
  by_cases h:k=34
  · subst h
    rw [isT_row (r:=(9,34,[110],[110],0,0,[101])) rfl]
    simp only [bodyS,wordS_n,kidsS_1 (a:=101) (c:=2) (by decide) (by decide) (by decide) rfl,bareS,← between]
    cases ckS nm <;> cases ckS mk <;> simp [Bool.and_assoc]
  · rw [isT_none (by simpa [show kindsOf 9=[34] from rfl] using h),decide_eq_false h]; rfl

theorem ev_cons {k n:Int} {nm mk:List UInt8} {ks:List Tr} (hl:ks.length≤1099511627776) (hg:∀ x∈ks,Good x)
    (ih:∀ x∈ks,Ev (fun K=>shape_kids_3 K x) (match x with | .nil=>false | .node _ _ _ _ l=>k1S (isT 1) l)) :
    Ev (fun K=>shape_cons K (.node k n nm mk ks)) (consGo (isT 8) [] ks && decide (0<ks.length)):=by
  refine Ev.step (fun k=>by rw [shape_cons]) ?_
  have loop:∀ (m i:Nat) (sn:List (List UInt8×Bool)) (seen:List (List UInt8)),ks.length=i+m→(∀ s,(lookupM sn s).getD false=decide (s∈seen)) →
      Ev (fun K=>shape_cons_l0 K (.node k n nm mk ks) ks (i:Int) sn) (consGo (isT 8) seen (ks.drop i) && decide (0<ks.length)):=by
    intro m
    induction m with
    | zero =>
      intro i sn seen hi hs
      refine Ev.step (fun k=>by rw [shape_cons_l0]) ?_
      refine Ev.dF (by omega) (Ev.pure' ?_)
      rw [List.drop_of_length_le (by omega)]
      by_cases h:0<ks.length
      · rw [decide_eq_true h,decide_eq_true (by omega)]; rfl
      · rw [decide_eq_false h,decide_eq_false (by omega)]; rfl
    | succ m ihm =>
      intro i sn seen hi hs
      have hlt:i<ks.length:=by omega
      rw [drop_get hlt]
      unfold consGo
      have nx:=fun sn seen=>ihm (i+1) sn seen (by omega)
      have e3:=ih _ (List.getElem_mem hlt)
      refine Ev.step (fun k=>by rw [shape_cons_l0]) ?_
      refine Ev.dT (by omega) (Ev.opt (getI_lt hlt) ?_)
      rw [wrap_nat (by omega)]
      have gd:=hg _ (List.getElem_mem hlt)
      generalize ks[i]=x at *
      cases gd with
      | @mk k' n' nm' mk' ks' g1 g2 g3 g4 =>
        rw [isT_con]
        simp only [nameOf]
        refine Ev.cast (Ev.andDN fun a1=>Ev.andN (ev_bare ..) fun a2=>Ev.andN (ev_check1 nm') fun a3=>Ev.cast (b:=(!decide (nm'∈seen)) && (k1S (isT 1) ks' && (consGo (isT 8) (seen++[nm']) (ks.drop (i+1)) && decide (0<ks.length)))) (Ev.is (v:=_) (fun h=>?_) (fun h=>?_)) rfl) ?_
        · rw [hs] at h
          exact Ev.pure' (by rw [h]; rfl)
        · rw [hs] at h
          rw [h]
          refine Ev.cast (Ev.andN e3 fun _=>nx _ (seen++[nm']) fun s=>?_) (by simp)
          rw [lookup_upd]
          by_cases e:s=nm'
          · rw [if_pos e]; simp [e]
          · rw [if_neg e,hs]; simp [e]
        · by_cases hm:nm'∈seen <;> cases decide (k'=8) <;> cases bareS true false false n' nm' mk' <;> cases ckS nm' <;> cases k1S (isT 1) ks' <;> simp [hm]
  have:=loop ks.length 0 [] [] (by omega) (fun s=>by simp [lookupM])
  simpa using this

theorem ev_type:∀ t:Tr,Good t→Ev (fun K=>shape_isType K t) (isT 1 t)∧Ev (fun K=>shape_kids_3 K t) (match t with | .nil=>false | .node _ _ _ _ l=>k1S (isT 1) l):=Tr.ind
  (fun h=>by cases h)
  fun k n nm mk ks ih h=>by
    cases h with
    | mk h1 h2 h3 h4 =>
      have ty:∀ x∈ks,Ev (fun K=>shape_isType K x) (isT 1 x):=fun x hx=>(ih x hx (h4 x hx)).1
      refine ⟨?_,Ev.step (fun k=>by rw [shape_kids_3]) (ev_k1 ty)⟩
      have k2:∀ k,Ev (fun K=>shape_kids_2 K (.node k n nm mk ks)) (k2S (isT 1) (isT 1) ks):=fun k=>Ev.step (fun k=>by rw [shape_kids_2]) (ev_k2 ty ty)
      refine Ev.step (fun k=>by rw [shape_isType]) ?_
      refine Ev.d (fun e=>?_) (fun e1=>Ev.d (fun e=>?_) (fun e2=>Ev.d (fun e=>?_) (fun e3=>Ev.d (fun e=>?_) (fun e4=>Ev.d (fun e=>?_) (fun e5=>Ev.d (fun e=>?_) (fun e6=>Ev.d (fun e=>?_) (fun e7=>Ev.pure' ?_)))))))
      · subst e
        refine Ev.cast (Ev.andB (ev_bare ..) fun _=>Ev.ret (ev_k0 ..)) ?_
        rw [isT_row (r:=(1,1,[],[],0,0,[])) rfl]
        simp [bodyS,wordS_e,kidsS,bareS,← between,Bool.and_assoc]
      · subst e
        refine Ev.cast (Ev.andB (ev_bare ..) fun _=>Ev.ret (ev_k0 ..)) ?_
        rw [isT_row (r:=(1,2,[],[],0,0,[])) rfl]
        simp [bodyS,wordS_e,kidsS,bareS,← between,Bool.and_assoc]
      · subst e
        refine Ev.cast (Ev.andB (ev_bare ..) fun _=>Ev.ret (ev_k0 ..)) ?_
        rw [isT_row (r:=(1,3,[],[],0,0,[])) rfl]
        simp [bodyS,wordS_e,kidsS,bareS,← between,Bool.and_assoc]
      · subst e
        refine Ev.cast (Ev.andB (ev_bare ..) fun _=>Ev.andB (ev_long1 nm) fun _=>Ev.ret (ev_k0 ..)) ?_
        rw [isT_row (r:=(1,4,[108],[],0,0,[])) rfl]
        simp only [bodyS,wordS_e,wordS_l,kidsS,bareS,← between]
        cases lgS nm <;> simp [Bool.and_assoc]
      · subst e
        refine Ev.cast (Ev.andB (ev_bare ..) fun _=>Ev.ret (k2 _)) ?_
        rw [isT_row (r:=(1,5,[],[],0,0,[116,116])) rfl]
        simp [bodyS,wordS_e,kidsS_2 (a:=116) (b:=116) (c:=1) (d:=1) (by decide) (by decide) (by decide) (by decide) (by decide) (by decide) rfl rfl,bareS,← between,Bool.and_assoc]
      · subst e
        refine Ev.cast (Ev.andB (ev_bare ..) fun _=>Ev.ret (k2 _)) ?_
        rw [isT_row (r:=(1,6,[],[],0,0,[116,116])) rfl]
        simp [bodyS,wordS_e,kidsS_2 (a:=116) (b:=116) (c:=1) (d:=1) (by decide) (by decide) (by decide) (by decide) (by decide) (by decide) rfl rfl,bareS,← between,Bool.and_assoc]
      · subst e
        refine Ev.cast (Ev.andB (ev_bare ..) fun _=>Ev.andB (ev_check1 nm) fun _=>Ev.ret (ev_cons h3 h4 fun x hx=>(ih x hx (h4 x hx)).2)) ?_
        rw [isT_row (r:=(1,7,[110],[],0,0,[67])) rfl]
        have e67:kidsS isT [67] ks=(consGo (isT 8) [] ks && decide (0<ks.length)):=rfl
        simp only [bodyS,wordS_e,wordS_n,e67,bareS,← between]
        cases ckS nm <;> simp [Bool.and_assoc]
      · rw [isT_none (by simp [show kindsOf 1=[1,2,3,4,5,6,7] from rfl,e1,e2,e3,e4,e5,e6,e7])]
end Go.Proofs.YtjhfgiieicloeaaGreatDoor

/- Shapes, part 4: the program's expressions are the table's. -/
namespace Go.Proofs.YtjhfgiieicloeaaGreatDoor
open Go Go.Am Go.Sx

def mE (many:Nat):List UInt8:=List.replicate many 101
theorem kidsS_mE:∀ (many:Nat) (l:List Tr),kidsS isT (mE many) l=(decide (l.length=many) && l.all (isT 2))
  | 0,l=>by
    unfold mE kidsS
    cases l <;> simp
  | m+1,[]=>by
    rw [mE,List.replicate_succ]
    unfold kidsS
    simp
  | m+1,k :: ks=>by
    rw [mE,List.replicate_succ]
    unfold kidsS
    rw [if_neg (by decide),if_neg (by decide),if_neg (by decide)]
    have:=kidsS_mE m ks
    rw [mE] at this
    simp only [this,List.all_cons,List.length_cons,show catS 101=2 from rfl]
    by_cases h:ks.length=m
    · simp [h]
    · simp [h]
def hd1:List Tr→Bool
  | []=>false
  | x :: _=>isT 2 x
def hd2:List Tr→Bool
  | x :: y :: _=>isT 2 x && isT 1 y
  | _=>false
theorem kidsS_eA (l:List Tr):kidsS isT [101,65] l=(decide (1<l.length) && ((l.drop 1).all (isT 9) && hd1 l)):=by
  match l with
  | []=>rfl
  | x :: r =>
    unfold kidsS
    rw [if_neg (by decide),if_neg (by decide),if_neg (by decide)]
    have:kidsS isT [65] r=(r.all (isT 9) && decide (0<r.length)):=rfl
    simp only [this,show catS 101=2 from rfl,List.drop_succ_cons,List.drop_zero,List.length_cons]
    rw [show decide (1<r.length+1)=decide (0<r.length) by by_cases h:0<r.length <;> simp [h]]
    rw [hd1]
    cases isT 2 x <;> cases r.all (isT 9) <;> simp
theorem kidsS_etA (l:List Tr):kidsS isT [101,116,65] l=(decide (2<l.length) && ((l.drop 2).all (isT 9) && hd2 l)):=by
  match l with
  | []=>rfl
  | [x] =>
    unfold kidsS
    rw [if_neg (by decide),if_neg (by decide),if_neg (by decide)]
    simp [kidsS,hd2]
  | x :: y :: r =>
    unfold kidsS
    rw [if_neg (by decide),if_neg (by decide),if_neg (by decide)]
    simp only []
    unfold kidsS
    rw [if_neg (by decide),if_neg (by decide),if_neg (by decide)]
    have:kidsS isT [65] r=(r.all (isT 9) && decide (0<r.length)):=rfl
    simp only [this,show catS 101=2 from rfl,show catS 116=1 from rfl,List.drop_succ_cons,List.drop_zero,List.length_cons]
    rw [show decide (2<r.length+1+1)=decide (0<r.length) by by_cases h:0<r.length <;> simp [h] <;> omega]
    rw [hd2]
    cases isT 2 x <;> cases isT 1 y <;> cases r.all (isT 9) <;> simp

theorem ev_expr:∀ t:Tr,Good t→Ev (fun K=>shape_isExpr K t) (isT 2 t)∧Ev (fun K=>shape_arms_1 K t) (isT 9 t)∧(∀ k n nm mk ks,t=.node k n nm mk ks→Ev (fun K=>shape_kids_6 K t) (k1S (isT 2) ks)∧Ev (fun K=>shape_kids_4 K t) (k2S (isT 1) (isT 2) ks)):=Tr.ind
  (fun h=>by cases h)
  fun k n nm mk ks ih h=>by
    cases h with
    | mk h1 h2 h3 h4 =>
      have ty:∀ x∈ks,Ev (fun K=>shape_isType K x) (isT 1 x):=fun x hx=>(ev_type x (h4 x hx)).1
      have ex:∀ x∈ks,Ev (fun K=>shape_isExpr K x) (isT 2 x):=fun x hx=>(ih x hx (h4 x hx)).1
      have ar:∀ x∈ks,Ev (fun K=>shape_arms_1 K x) (isT 9 x):=fun x hx=>(ih x hx (h4 x hx)).2.1
      have k6:Ev (fun K=>shape_kids_6 K (.node k n nm mk ks)) (k1S (isT 2) ks):=Ev.step (fun k=>by rw [shape_kids_6]) (ev_k1 ex)
      have k4:Ev (fun K=>shape_kids_4 K (.node k n nm mk ks)) (k2S (isT 1) (isT 2) ks):=Ev.step (fun k=>by rw [shape_kids_4]) (ev_k2 ty ex)
      refine ⟨?_,?_,fun k' n' nm' mk' ks' e=>by cases e; exact ⟨k6,k4⟩⟩
      · have k5:∀ k,Ev (fun K=>shape_kids_5 K (.node k n nm mk ks)) (k2S (isT 2) (isT 2) ks):=fun k=>Ev.step (fun k=>by rw [shape_kids_5]) (ev_k2 ex ex)
        have simple:∀ (k:Int) (many:Nat),Ev (fun K=>shape_simple K (.node k n nm mk ks) (many:Int)) (bareS false false false n nm mk && (decide (ks.length=many) && ks.all (isT 2))):=fun k many=>by
          refine Ev.step (fun k=>by rw [shape_simple]) ?_
          refine Ev.andB (ev_bare ..) fun _=>?_
          refine Ev.cast (Ev.andD (p:=((ks.length:Nat):Int)=(many:Int)) (b:=ks.all (isT 2)) fun _=>Ev.ret (Ev.step (fun k=>by rw [shape_each]) ?_)) ?_
          · exact ev_from (from':=0) (fun k l i=>by rw [shape_each_l0]) h3 ex (by omega)
          · by_cases h:ks.length=many
            · rw [decide_eq_true h,decide_eq_true (by omega)]
            · rw [decide_eq_false h,decide_eq_false (by omega)]
        have arms:∀ (k:Int) (fr:Nat),Ev (fun K=>shape_arms K (.node k n nm mk ks) (fr:Int)) (decide (fr<ks.length) && (ks.drop fr).all (isT 9)):=fun k fr=>by
          refine Ev.step (fun k=>by rw [shape_arms]) ?_
          refine Ev.cast (Ev.andD (p:=(fr:Int)<((ks.length:Nat):Int)) (b:=(ks.drop fr).all (isT 9)) fun _=>Ev.ret (Ev.step (fun k=>by rw [shape_each_2]) ?_)) ?_
          · exact ev_from (from':=fr) (fun k l i=>by rw [shape_each_2_l0]) h3 ar (by omega)
          · by_cases h:fr<ks.length
            · rw [decide_eq_true h,decide_eq_true (by omega)]
            · rw [decide_eq_false h,decide_eq_false (by omega)]
        refine Ev.step (fun k=>by rw [shape_isExpr]) ?_
        refine Ev.d (fun e=>?_) (fun e1=>?_)
        · subst e
          refine Ev.cast (Ev.andB (ev_bare ..) fun _=>Ev.andD fun _=>Ev.andD fun _=>Ev.ret (ev_k0 ..)) ?_
          rw [isT_row (r:=(2,20,[],[],IntKind.i64.wrap (0 - 1073741824),1073741824,[])) rfl,show IntKind.i64.wrap (0 - 1073741824)=-1073741824 from rfl]
          simp [bodyS,wordS_e,kidsS,bareS,Bool.and_assoc]
        refine Ev.d (fun e=>?_) (fun e2=>?_)
        · subst e
          refine Ev.cast (Ev.andB (b:=(decide (n=0) || decide (n=1)) && decide (ks.length=0)) (ev_bare ..) fun _=>Ev.d (fun h=>Ev.cast (Ev.ret (ev_k0 ..)) (by simp [h])) (fun h=>Ev.d (fun h'=>Ev.cast (Ev.ret (ev_k0 ..)) (by simp [h'])) (fun h'=>Ev.pure' (by simp [h,h'])))) ?_
          rw [isT_row (r:=(2,21,[],[],0,1,[])) rfl]
          simp only [bodyS,wordS_e,kidsS,bareS,← between1]
          simp [Bool.and_assoc]
        refine Ev.d (fun e=>?_) (fun e3=>?_)
        · subst e
          refine Ev.cast (Ev.ret (simple 22 0)) ?_
          rw [isT_row (r:=(2,22,[],[],0,0,mE 0)) rfl]
          simp only [bodyS,wordS_e,kidsS_mE,bareS,← between]
          simp [Bool.and_assoc]
        refine Ev.d (fun e=>?_) (fun e4=>?_)
        · subst e
          refine Ev.cast (Ev.andB (ev_bare ..) fun _=>Ev.andB (ev_long1 nm) fun _=>Ev.ret (ev_k0 ..)) ?_
          rw [isT_row (r:=(2,23,[108],[],0,0,[])) rfl]
          simp only [bodyS,wordS_e,wordS_l,kidsS,bareS,← between]
          cases lgS nm <;> simp [Bool.and_assoc]
        refine Ev.d (fun e=>?_) (fun e5=>?_)
        · subst e
          refine Ev.cast (Ev.andB (ev_bare ..) fun _=>Ev.andB (ev_check1 nm) fun _=>Ev.ret k4) ?_
          rw [isT_row (r:=(2,24,[110],[],0,0,[116,101])) rfl]
          simp only [bodyS,wordS_e,wordS_n,kidsS_2 (a:=116) (b:=101) (c:=1) (d:=2) (by decide) (by decide) (by decide) (by decide) (by decide) (by decide) rfl rfl,bareS,← between]
          cases ckS nm <;> simp [Bool.and_assoc]
        refine Ev.d (fun e=>?_) (fun e6=>?_)
        · subst e
          refine Ev.cast (Ev.ret (simple 25 2)) ?_
          rw [isT_row (r:=(2,25,[],[],0,0,mE 2)) rfl]
          simp only [bodyS,wordS_e,kidsS_mE,bareS,← between]
          simp [Bool.and_assoc]
        refine Ev.d (fun e=>?_) (fun e7=>?_)
        · subst e
          refine Ev.cast (Ev.ret (simple 26 2)) ?_
          rw [isT_row (r:=(2,26,[],[],0,0,mE 2)) rfl]
          simp only [bodyS,wordS_e,kidsS_mE,bareS,← between]
          simp [Bool.and_assoc]
        refine Ev.d (fun e=>?_) (fun e8=>?_)
        · subst e
          refine Ev.cast (Ev.ret (simple 27 1)) ?_
          rw [isT_row (r:=(2,27,[],[],0,0,mE 1)) rfl]
          simp only [bodyS,wordS_e,kidsS_mE,bareS,← between]
          simp [Bool.and_assoc]
        refine Ev.d (fun e=>?_) (fun e9=>?_)
        · subst e
          refine Ev.cast (Ev.ret (simple 28 1)) ?_
          rw [isT_row (r:=(2,28,[],[],0,0,mE 1)) rfl]
          simp only [bodyS,wordS_e,kidsS_mE,bareS,← between]
          simp [Bool.and_assoc]
        refine Ev.d (fun e=>?_) (fun e10=>?_)
        · subst e
          refine Ev.cast (Ev.andB (ev_bare ..) fun _=>Ev.andB (ev_check1 nm) fun _=>Ev.ret (k5 _)) ?_
          rw [isT_row (r:=(2,29,[110],[],0,0,[101,101])) rfl]
          simp only [bodyS,wordS_e,wordS_n,kidsS_2 (a:=101) (b:=101) (c:=2) (d:=2) (by decide) (by decide) (by decide) (by decide) (by decide) (by decide) rfl rfl,bareS,← between]
          cases ckS nm <;> simp [Bool.and_assoc]
        refine Ev.d (fun e=>?_) (fun e11=>?_)
        · subst e
          refine Ev.cast (Ev.ret (simple 30 3)) ?_
          rw [isT_row (r:=(2,30,[],[],0,0,mE 3)) rfl]
          simp only [bodyS,wordS_e,kidsS_mE,bareS,← between]
          simp [Bool.and_assoc]
        refine Ev.d (fun e=>?_) (fun e12=>?_)
        · subst e
          refine Ev.cast (Ev.andB (ev_bare ..) fun _=>Ev.andD fun _=>Ev.andD fun _=>Ev.ret (k5 _)) ?_
          rw [isT_row (r:=(2,31,[],[],1,5,[101,101])) rfl]
          simp only [bodyS,wordS_e,kidsS_2 (a:=101) (b:=101) (c:=2) (d:=2) (by decide) (by decide) (by decide) (by decide) (by decide) (by decide) rfl rfl,bareS]
          simp [Bool.and_assoc]
        refine Ev.d (fun e=>?_) (fun e13=>?_)
        · subst e
          refine Ev.cast (Ev.andB (ev_bare ..) fun _=>Ev.andB (b:=hd1 ks) (arms 32 1) fun ha=>?_) ?_
          · match ks,ha,ex with
            | [],ha,_=>simp at ha
            | x :: r,_,ex=>exact Ev.opt (a:=x) rfl (Ev.ret (ex x List.mem_cons_self))
          rw [isT_row (r:=(2,32,[],[],0,0,[101,65])) rfl]
          simp only [bodyS,wordS_e,kidsS_eA,bareS,← between]
          simp [Bool.and_assoc]
        refine Ev.d (fun e=>?_) (fun e14=>Ev.pure' ?_)
        · subst e
          refine Ev.cast (Ev.andB (ev_bare ..) fun _=>Ev.andB (b:=hd2 ks) (arms 33 2) fun ha=>?_) ?_
          · match ks,ha,ex,ty with
            | [],ha,_,_=>simp at ha
            | [x],ha,_,_=>simp at ha
            | x :: y :: r,_,ex,ty=>exact Ev.opt (a:=x) rfl (Ev.andB (ex x List.mem_cons_self) fun _=>Ev.opt (a:=y) rfl (Ev.ret (ty y (by simp))))
          rw [isT_row (r:=(2,33,[],[],0,0,[101,116,65])) rfl]
          simp only [bodyS,wordS_e,kidsS_etA,bareS,← between]
          simp [Bool.and_assoc]
        · rw [isT_none (by simp [show kindsOf 2=[20,21,22,23,24,25,26,27,28,29,30,31,32,33] from rfl,e1,e2,e3,e4,e5,e6,e7,e8,e9,e10,e11,e12,e13,e14])]
      · rw [isT_arm]
        exact Ev.step (fun k=>by rw [shape_arms_1]) (Ev.andD fun _=>Ev.andB (ev_bare ..) fun _=>Ev.andB (ev_check1 nm) fun _=>Ev.andB (ev_check1 mk) fun _=>Ev.ret k6)
end Go.Proofs.YtjhfgiieicloeaaGreatDoor

/- Shapes, part 5: the program's signatures, modules, declarations, programs are the table's. -/
namespace Go.Proofs.YtjhfgiieicloeaaGreatDoor
open Go Go.Am Go.Sx

theorem k2_11 (l:List Tr):kidsS isT [115,116] l=k2S (isT 4) (isT 1) l:=kidsS_2 (by decide) (by decide) (by decide) (by decide) (by decide) (by decide) rfl rfl l
theorem k1_t (l:List Tr):kidsS isT [116] l=k1S (isT 1) l:=kidsS_1 (by decide) (by decide) (by decide) rfl l
theorem k1_e (l:List Tr):kidsS isT [101] l=k1S (isT 2) l:=kidsS_1 (by decide) (by decide) (by decide) rfl l
theorem k1_m (l:List Tr):kidsS isT [109] l=k1S (isT 3) l:=kidsS_1 (by decide) (by decide) (by decide) rfl l
theorem k1_s (l:List Tr):kidsS isT [115] l=k1S (isT 4) l:=kidsS_1 (by decide) (by decide) (by decide) rfl l
theorem k2_ms (l:List Tr):kidsS isT [109,115] l=k2S (isT 3) (isT 4) l:=kidsS_2 (by decide) (by decide) (by decide) (by decide) (by decide) (by decide) rfl rfl l
theorem k2_sm (l:List Tr):kidsS isT [115,109] l=k2S (isT 4) (isT 3) l:=kidsS_2 (by decide) (by decide) (by decide) (by decide) (by decide) (by decide) rfl rfl l
theorem k2_te (l:List Tr):kidsS isT [116,101] l=k2S (isT 1) (isT 2) l:=kidsS_2 (by decide) (by decide) (by decide) (by decide) (by decide) (by decide) rfl rfl l
theorem k_C (l:List Tr):kidsS isT [67] l=(consGo (isT 8) [] l && decide (0<l.length)):=rfl
theorem k_0 (l:List Tr):kidsS isT [] l=decide (l.length=0):=rfl
theorem k_p (l:List Tr):kidsS isT [42,112] l=l.all (isT 5):=all_congr' l fun x _=>by simp [notI,show catS 112=5 from rfl]
theorem k_d (l:List Tr):kidsS isT [42,100] l=l.all (isT 6):=all_congr' l fun x _=>by simp [notI,show catS 100=6 from rfl]
def innerS (t:Tr):Bool:=isT 6 t && notI 105 t
theorem k_i (l:List Tr):kidsS isT [42,105] l=l.all innerS:=all_congr' l fun x _=>by simp [innerS,show catS 105=6 from rfl]

theorem ev_sig:∀ t:Tr,Good t→Ev (fun K=>shape_isSig K t) (isT 4 t)∧Ev (fun K=>shape_isSpec K t) (isT 5 t)∧(∀ k n nm mk ks,t=.node k n nm mk ks→Ev (fun K=>shape_kids_9 K t) (k1S (isT 4) ks)):=Tr.ind
  (fun h=>by cases h)
  fun k n nm mk ks ih h=>by
    have h:=h
    have kt:=(ev_type _ h).2
    cases h with
    | mk h1 h2 h3 h4 =>
      have ty:∀ x∈ks,Ev (fun K=>shape_isType K x) (isT 1 x):=fun x hx=>(ev_type x (h4 x hx)).1
      have sg:∀ x∈ks,Ev (fun K=>shape_isSig K x) (isT 4 x):=fun x hx=>(ih x hx (h4 x hx)).1
      have sp:∀ x∈ks,Ev (fun K=>shape_isSpec K x) (isT 5 x):=fun x hx=>(ih x hx (h4 x hx)).2.1
      have co:Ev (fun K=>shape_cons K (.node k n nm mk ks)) (consGo (isT 8) [] ks && decide (0<ks.length)):=ev_cons h3 h4 fun x hx=>(ev_type x (h4 x hx)).2
      have k9:Ev (fun K=>shape_kids_9 K (.node k n nm mk ks)) (k1S (isT 4) ks):=Ev.step (fun k=>by rw [shape_kids_9]) (ev_k1 sg)
      have k10:Ev (fun K=>shape_kids_10 K (.node k n nm mk ks)) (k2S (isT 4) (isT 1) ks):=Ev.step (fun k=>by rw [shape_kids_10]) (ev_k2 sg ty)
      have eaS:Ev (fun K=>shape_each_4 K (.node k n nm mk ks) 0) (ks.all (isT 5)):=by
        refine Ev.step (fun k=>by rw [shape_each_4]) ?_
        exact ev_from (from':=0) (fun k l i=>by rw [shape_each_4_l0]) h3 sp (by omega)
      refine ⟨?_,?_,fun k' n' nm' mk' ks' e=>by cases e; exact k9⟩
      · refine Ev.step (fun k=>by rw [shape_isSig]) ?_
        refine Ev.d (fun e=>?_) (fun e1=>Ev.d (fun e=>?_) (fun e2=>Ev.d (fun e=>?_) (fun e3=>Ev.pure' ?_)))
        · subst e
          refine Ev.cast (Ev.andB (ev_bare ..) fun _=>Ev.ret eaS) ?_
          rw [isT_row (r:=(4,50,[],[],0,0,[42,112])) rfl]
          simp only [bodyS,wordS_e,k_p,bareS,← between]
          simp [Bool.and_assoc]
        · subst e
          refine Ev.cast (Ev.andB (ev_bare ..) fun _=>Ev.andB (ev_check1 nm) fun _=>Ev.ret (ev_k0 ..)) ?_
          rw [isT_row (r:=(4,51,[110],[],0,0,[])) rfl]
          simp only [bodyS,wordS_e,wordS_n,k_0,bareS,← between]
          cases ckS nm <;> simp [Bool.and_assoc]
        · subst e
          refine Ev.cast (Ev.andB (ev_bare ..) fun _=>Ev.andB (ev_long1 nm) fun _=>Ev.ret k10) ?_
          rw [isT_row (r:=(4,52,[108],[],0,0,[115,116])) rfl]
          simp only [bodyS,wordS_e,wordS_l,k2_11,bareS,← between]
          cases lgS nm <;> simp [Bool.and_assoc]
        · rw [isT_none (by simp [show kindsOf 4=[50,51,52] from rfl,e1,e2,e3])]
      · refine Ev.step (fun k=>by rw [shape_isSpec]) ?_
        refine Ev.d (fun e=>?_) (fun e1=>Ev.d (fun e=>?_) (fun e2=>?_))
        · subst e
          refine Ev.cast (Ev.andB (ev_bare ..) fun _=>Ev.ret k9) ?_
          rw [isT_row (r:=(5,64,[],[],0,0,[115])) rfl]
          simp only [bodyS,wordS_e,k1_s,bareS,← between]
          simp [Bool.and_assoc]
        · subst e
          refine Ev.cast (Ev.andB (ev_bare ..) fun _=>Ev.andB (ev_long1 nm) fun _=>Ev.andB (ev_long1 mk) fun _=>Ev.ret (ev_k0 ..)) ?_
          rw [isT_row (r:=(5,65,[108],[108],0,0,[])) rfl]
          simp only [bodyS,wordS_l,k_0,bareS,← between]
          cases lgS nm <;> cases lgS mk <;> simp [Bool.and_assoc]
        by_cases e3:k=60
        · subst e3
          refine Ev.cast (Ev.andN (ev_bare ..) fun _=>Ev.andN (ev_check1 nm) fun _=>Ev.dT rfl (Ev.ret kt)) ?_
          rw [isT_row (r:=(5,60,[110],[],0,0,[116])) rfl]
          simp only [bodyS,wordS_e,wordS_n,k1_t,bareS,← between]
          cases ckS nm <;> simp [Bool.and_assoc]
        by_cases e4:k=61
        · subst e4
          refine Ev.cast (Ev.andN (ev_bare ..) fun _=>Ev.andN (ev_check1 nm) fun _=>Ev.dF (by decide) (Ev.dT rfl (Ev.orB (ev_k0 ..) (Ev.ret kt)))) ?_
          rw [isT_rows (r:=(5,61,[110],[],0,0,[116])) (r':=(5,61,[110],[],0,0,[])) rfl]
          simp only [bodyS,wordS_e,wordS_n,k1_t,k_0,bareS,← between]
          cases ckS nm <;> cases decide (mk=[]) <;> cases decide (0≤n) <;> cases decide (n≤0) <;> cases k1S (isT 1) ks <;> simp
        by_cases e5:k=62
        · subst e5
          refine Ev.cast (Ev.andN (ev_bare ..) fun _=>Ev.andN (ev_check1 nm) fun _=>Ev.dF (by decide) (Ev.dF (by decide) (Ev.dT rfl (Ev.ret co)))) ?_
          rw [isT_row (r:=(5,62,[110],[],0,0,[67])) rfl]
          simp only [bodyS,wordS_e,wordS_n,k_C,bareS,← between]
          cases ckS nm <;> simp [Bool.and_assoc]
        by_cases e6:k=63
        · subst e6
          refine Ev.cast (Ev.andN (ev_bare ..) fun _=>Ev.andN (ev_check1 nm) fun _=>Ev.dF (by decide) (Ev.dF (by decide) (Ev.dF (by decide) (Ev.dT rfl (Ev.ret k9))))) ?_
          rw [isT_row (r:=(5,63,[110],[],0,0,[115])) rfl]
          simp only [bodyS,wordS_e,wordS_n,k1_s,bareS,← between]
          cases ckS nm <;> simp [Bool.and_assoc]
        refine Ev.cast (Ev.andN (ev_bare ..) fun _=>Ev.andN (ev_check1 nm) fun _=>Ev.dF e3 (Ev.dF e4 (Ev.dF e5 (Ev.dF e6 Ev.pure)))) ?_
        rw [isT_none (by simp [show kindsOf 5=[60,61,61,62,63,64,65] from rfl,e1,e2,e3,e4,e5,e6])]
        simp

theorem ev_mod:∀ t:Tr,Good t→Ev (fun K=>shape_isMod K t) (isT 3 t)∧Ev (fun K=>shape_isInner K t) (innerS t):=Tr.ind
  (fun h=>by cases h)
  fun k n nm mk ks ih h=>by
    have h:=h
    have kt:=(ev_type _ h).2
    have ke:=(ev_expr _ h).2.2 _ _ _ _ _ rfl
    cases h with
    | mk h1 h2 h3 h4 =>
      have md:∀ x∈ks,Ev (fun K=>shape_isMod K x) (isT 3 x):=fun x hx=>(ih x hx (h4 x hx)).1
      have inn:∀ x∈ks,Ev (fun K=>shape_isInner K x) (innerS x):=fun x hx=>(ih x hx (h4 x hx)).2
      have sg:∀ x∈ks,Ev (fun K=>shape_isSig K x) (isT 4 x):=fun x hx=>(ev_sig x (h4 x hx)).1
      have co:Ev (fun K=>shape_cons K (.node k n nm mk ks)) (consGo (isT 8) [] ks && decide (0<ks.length)):=ev_cons h3 h4 fun x hx=>(ev_type x (h4 x hx)).2
      have k7:Ev (fun K=>shape_kids_7 K (.node k n nm mk ks)) (k1S (isT 3) ks):=Ev.step (fun k=>by rw [shape_kids_7]) (ev_k1 md)
      have k8:Ev (fun K=>shape_kids_8 K (.node k n nm mk ks)) (k2S (isT 3) (isT 4) ks):=Ev.step (fun k=>by rw [shape_kids_8]) (ev_k2 md sg)
      have eaS:Ev (fun K=>shape_each_3 K (.node k n nm mk ks) 0) (ks.all innerS):=by
        refine Ev.step (fun k=>by rw [shape_each_3]) ?_
        exact ev_from (from':=0) (fun k l i=>by rw [shape_each_3_l0]) h3 inn (by omega)
      refine ⟨?_,?_⟩
      · refine Ev.step (fun k=>by rw [shape_isMod]) ?_
        refine Ev.d (fun e=>?_) (fun e1=>Ev.d (fun e=>?_) (fun e2=>Ev.d (fun e=>?_) (fun e3=>Ev.d (fun e=>?_) (fun e4=>Ev.pure' ?_))))
        · subst e
          refine Ev.cast (Ev.andB (ev_bare ..) fun _=>Ev.ret eaS) ?_
          rw [isT_row (r:=(3,40,[],[],0,0,[42,105])) rfl]
          simp only [bodyS,wordS_e,k_i,bareS,← between]
          simp [Bool.and_assoc]
        · subst e
          refine Ev.cast (Ev.andB (ev_bare ..) fun _=>Ev.andB (ev_long1 nm) fun _=>Ev.ret (ev_k0 ..)) ?_
          rw [isT_row (r:=(3,41,[108],[],0,0,[])) rfl]
          simp only [bodyS,wordS_e,wordS_l,k_0,bareS,← between]
          cases lgS nm <;> simp [Bool.and_assoc]
        · subst e
          refine Ev.cast (Ev.andB (ev_bare ..) fun _=>Ev.andB (ev_check1 nm) fun _=>Ev.ret k7) ?_
          rw [isT_row (r:=(3,42,[110],[],0,0,[109])) rfl]
          simp only [bodyS,wordS_e,wordS_n,k1_m,bareS,← between]
          cases ckS nm <;> simp [Bool.and_assoc]
        · subst e
          refine Ev.cast (Ev.andB (b:=(decide (n=0) || decide (n=1)) && k2S (isT 3) (isT 4) ks) (ev_bare ..) fun _=>Ev.d (fun h=>Ev.cast (Ev.ret k8) (by simp [h])) (fun h=>Ev.d (fun h'=>Ev.cast (Ev.ret k8) (by simp [h'])) (fun h'=>Ev.pure' (by simp [h,h'])))) ?_
          rw [isT_row (r:=(3,43,[],[],0,1,[109,115])) rfl]
          simp only [bodyS,wordS_e,k2_ms,bareS,← between1]
          simp [Bool.and_assoc]
        · rw [isT_none (by simp [show kindsOf 3=[40,41,42,43] from rfl,e1,e2,e3,e4])]
      · refine Ev.step (fun k=>by rw [shape_isInner]) ?_
        unfold innerS
        by_cases e1:k=76
        · subst e1
          refine Ev.cast (Ev.andN (ev_bare ..) fun _=>Ev.dT rfl (Ev.andB (ev_long1 nm) fun _=>Ev.ret (ev_k0 ..))) ?_
          rw [isT_row (r:=(6,76,[108],[],0,0,[])) rfl,show notI 105 (.node 76 n nm mk ks)=true from rfl]
          simp only [bodyS,wordS_e,wordS_l,k_0,bareS,← between]
          cases lgS nm <;> simp [Bool.and_assoc]
        by_cases e2:k=77
        · subst e2
          refine Ev.cast (Ev.andN (ev_bare ..) fun _=>Ev.dF (by decide) (Ev.dT rfl (Ev.andB (ev_long1 nm) fun _=>Ev.ret (ev_k0 ..)))) ?_
          rw [isT_row (r:=(6,77,[108],[],0,0,[])) rfl,show notI 105 (.node 77 n nm mk ks)=true from rfl]
          simp only [bodyS,wordS_e,wordS_l,k_0,bareS,← between]
          cases lgS nm <;> simp [Bool.and_assoc]
        by_cases e3:k=70
        · subst e3
          have c0:Ev (fun K=>shape_isInner_c0 K (.node 70 n nm mk ks)) (ckS nm && (k1S (isT 2) ks || k2S (isT 1) (isT 2) ks)):=by
            refine Ev.step (fun k=>by rw [shape_isInner_c0]) ?_
            exact Ev.andN (ev_check1 nm) fun _=>Ev.dT rfl (Ev.orB ke.1 (Ev.ret ke.2))
          refine Ev.cast (Ev.andN (ev_bare ..) fun _=>Ev.dF (by decide) (Ev.dF (by decide) c0)) ?_
          rw [isT_rows (r:=(6,70,[110],[],0,0,[101])) (r':=(6,70,[110],[],0,0,[116,101])) rfl,show notI 105 (.node 70 n nm mk ks)=true from rfl]
          simp only [bodyS,wordS_e,wordS_n,k1_e,k2_te,bareS,← between]
          cases ckS nm <;> cases decide (mk=[]) <;> cases decide (0≤n) <;> cases decide (n≤0) <;> cases k1S (isT 2) ks <;> simp
        by_cases e4:k=71
        · subst e4
          have c0:Ev (fun K=>shape_isInner_c0 K (.node 71 n nm mk ks)) (ckS nm && (k1S (isT 1) ks)):=by
            refine Ev.step (fun k=>by rw [shape_isInner_c0]) ?_
            exact Ev.andN (ev_check1 nm) fun _=>Ev.dF (by decide) (Ev.dT rfl (Ev.ret kt))
          refine Ev.cast (Ev.andN (ev_bare ..) fun _=>Ev.dF (by decide) (Ev.dF (by decide) c0)) ?_
          rw [isT_row (r:=(6,71,[110],[],0,0,[116])) rfl,show notI 105 (.node 71 n nm mk ks)=true from rfl]
          simp only [bodyS,wordS_e,wordS_n,k1_t,bareS,← between]
          cases ckS nm <;> simp [Bool.and_assoc]
        by_cases e5:k=72
        · subst e5
          have c0:Ev (fun K=>shape_isInner_c0 K (.node 72 n nm mk ks)) (ckS nm && (consGo (isT 8) [] ks && decide (0<ks.length))):=by
            refine Ev.step (fun k=>by rw [shape_isInner_c0]) ?_
            exact Ev.andN (ev_check1 nm) fun _=>Ev.dF (by decide) (Ev.dF (by decide) (Ev.dT rfl (Ev.ret co)))
          refine Ev.cast (Ev.andN (ev_bare ..) fun _=>Ev.dF (by decide) (Ev.dF (by decide) c0)) ?_
          rw [isT_row (r:=(6,72,[110],[],0,0,[67])) rfl,show notI 105 (.node 72 n nm mk ks)=true from rfl]
          simp only [bodyS,wordS_e,wordS_n,k_C,bareS,← between]
          cases ckS nm <;> simp [Bool.and_assoc]
        by_cases e6:k=73
        · subst e6
          have c0:Ev (fun K=>shape_isInner_c0 K (.node 73 n nm mk ks)) (ckS nm && (k1S (isT 3) ks)):=by
            refine Ev.step (fun k=>by rw [shape_isInner_c0]) ?_
            exact Ev.andN (ev_check1 nm) fun _=>Ev.dF (by decide) (Ev.dF (by decide) (Ev.dF (by decide) (Ev.dT rfl (Ev.ret k7))))
          refine Ev.cast (Ev.andN (ev_bare ..) fun _=>Ev.dF (by decide) (Ev.dF (by decide) c0)) ?_
          rw [isT_row (r:=(6,73,[110],[],0,0,[109])) rfl,show notI 105 (.node 73 n nm mk ks)=true from rfl]
          simp only [bodyS,wordS_e,wordS_n,k1_m,bareS,← between]
          cases ckS nm <;> simp [Bool.and_assoc]
        have c0:Ev (fun K=>shape_isInner_c0 K (.node k n nm mk ks)) (ckS nm && (false)):=by
          refine Ev.step (fun k=>by rw [shape_isInner_c0]) ?_
          exact Ev.andN (ev_check1 nm) fun _=>Ev.dF e3 (Ev.dF e4 (Ev.dF e5 (Ev.dF e6 Ev.pure)))
        refine Ev.cast (Ev.andN (ev_bare ..) fun _=>Ev.dF e1 (Ev.dF e2 c0)) ?_
        by_cases e7:k=74
        · subst e7; simp [notI,kindOf]
        by_cases e8:k=75
        · subst e8; simp [notI,kindOf]
        rw [isT_none (by simp [show kindsOf 6=[70,70,71,72,73,74,75,76,77] from rfl,e1,e2,e3,e4,e5,e6,e7,e8])]
        simp

theorem ev_decl (t:Tr) (h:Good t):Ev (fun K=>shape_isDecl K t) (isT 6 t):=by
  have inn:=(ev_mod _ h).2
  cases h with
  | @mk k n nm mk ks h1 h2 h3 h4 =>
    have k9:=(ev_sig _ (Good.mk h1 h2 h3 h4 (k:=k) (n:=n))).2.2 _ _ _ _ _ rfl
    have md:∀ x∈ks,Ev (fun K=>shape_isMod K x) (isT 3 x):=fun x hx=>(ev_mod x (h4 x hx)).1
    have sg:∀ x∈ks,Ev (fun K=>shape_isSig K x) (isT 4 x):=fun x hx=>(ev_sig x (h4 x hx)).1
    have k11:Ev (fun K=>shape_kids_11 K (.node k n nm mk ks)) (k2S (isT 4) (isT 3) ks):=Ev.congr (f:=fun K=>_) (ev_k2 sg md) (fun k=>by rw [shape_kids_11])
    refine Ev.congr (f:=fun K=>_) ?_ (fun k=>by rw [shape_isDecl])
    refine Ev.d (fun e=>?_) (fun e1=>Ev.d (fun e=>?_) (fun e2=>?_))
    · subst e
      refine Ev.cast (Ev.andB (ev_bare ..) fun _=>Ev.andB (ev_check1 nm) fun _=>Ev.ret k9) ?_
      rw [isT_row (r:=(6,74,[110],[],0,0,[115])) rfl]
      simp only [bodyS,wordS_e,wordS_n,k1_s,bareS,← between]
      cases ckS nm <;> simp [Bool.and_assoc]
    · subst e
      refine Ev.cast (Ev.andB (ev_bare ..) fun _=>Ev.andB (ev_check1 nm) fun _=>Ev.andB (ev_check1 mk) fun _=>Ev.ret k11) ?_
      rw [isT_row (r:=(6,75,[110],[110],0,0,[115,109])) rfl]
      simp only [bodyS,wordS_n,k2_sm,bareS,← between]
      cases ckS nm <;> cases ckS mk <;> simp [Bool.and_assoc]
    · refine Ev.cast (Ev.ret inn) ?_
      simp [innerS,notI,kindOf,e1,e2]
theorem ev_prog (t:Tr) (h:Good t):Ev (fun K=>shape_isProg K t) (isT 7 t):=by
  cases h with
  | @mk k n nm mk ks h1 h2 h3 h4 =>
    refine Ev.congr (f:=fun K=>_) ?_ (fun k=>by rw [shape_isProg])
    refine Ev.d (fun e=>?_) (fun e1=>Ev.pure' ?_)
    · subst e
      have ea:Ev (fun K=>shape_each_5 K (.node 80 n nm mk ks) 0) (ks.all (isT 6)):=by
        refine Ev.congr (f:=fun K=>_) ?_ (fun k=>by rw [shape_each_5])
        exact ev_from (from':=0) (fun k l i=>by rw [shape_each_5_l0]) h3 (fun x hx=>ev_decl x (h4 x hx)) (by omega)
      refine Ev.cast (Ev.andB (ev_bare ..) fun _=>Ev.ret ea) ?_
      rw [isT_row (r:=(7,80,[],[],0,0,[42,100])) rfl]
      simp only [bodyS,wordS_e,k_d,bareS,← between]
      simp [Bool.and_assoc]
    · rw [isT_none (by simp [show kindsOf 7=[80] from rfl,e1])]
end Go.Proofs.YtjhfgiieicloeaaGreatDoor

/- Shapes, part 5b: a look at a tree as a type, by both; opened trees. -/
namespace Go.Proofs.YtjhfgiieicloeaaGreatDoor
open Go Go.Am Go.Sx

theorem good_full:∀ t:Tr,Good t→fullT t=true:=Tr.ind (fun h=>by cases h) fun k n nm mk ks ih h=>by
  cases h with
  | mk h1 h2 h3 h4=>rw [fullT_node,fullL_mem]; exact fun x hx=>ih x hx (h4 x hx)
def Fine (t:Tr):Prop:=t.w≤1099511627776∧(fullT t=true→Good t)
def chk (c:Int) (t:Tr):Int:=if (packT t).2=0 then (if 60<deepT t then 7 else if isT c t=true then 0 else 16) else (packT t).2
theorem pack_full {t:Tr} (h:(packT t).2=0):fullT t=true:=by
  unfold packT at h
  by_cases hf:fullT t=true
  · exact hf
  · rw [if_neg hf] at h; cases h
theorem ev_chk {f:Nat→Tr→Option Bool} {c:Int} {t:Tr} (h:Fine t) (hf:Good t→Ev (fun K=>f K t) (isT c t)) :
    Ev (fun K=>(arena_Pack K t).bind fun (_,v2)=>iteS (!decide (v2=0)) (some v2) ((arena_Deep K t).bind fun v3=>iteS (decide (60<v3)) (some (7:Int)) ((f K t).bind fun v4=>iteS (!v4) (some 16) (some 0)))) (chk c t):=by
  unfold chk
  have hp:=ev_pack t h.1
  have key:(packT t).2=0→fullT t=true:=pack_full
  generalize packT t=q at *
  obtain ⟨a,e⟩:=q
  refine Ev.bind hp ?_
  refine Ev.n (fun h0=>Ev.pure' ?_) (fun h0=>?_)
  · rw [if_neg h0]
  · rw [if_pos h0]
    refine Ev.bind (ev_deep t h.1) (Ev.d (fun h1=>Ev.pure' ?_) (fun h1=>?_))
    · rw [if_pos (by omega)]
    · rw [if_neg (by omega)]
      refine Ev.bind (hf (h.2 (key h0))) ?_
      cases isT c t
      · exact Ev.isT rfl Ev.pure
      · exact Ev.isF rfl Ev.pure
section
variable {t:Tr} (h:Fine t)
include h
theorem ev_Type:Ev (fun K=>shape_Type K t) (chk 1 t):=Ev.congr (f:=fun _K=>_) (Ev.ret (Ev.congr (f:=fun _K=>_) (ev_chk (f:=shape_isType) h fun g=>(ev_type t g).1) (fun _=>rfl))) (fun _=>rfl)
theorem ev_Check (c:Int):Ev (fun K=>ref05_Check K t c) (chk c t):=by
  refine Ev.congr (f:=fun K=>_) ?_ (fun k=>by rw [ref05_Check])
  unfold chk
  have hp:=ev_rpack t h.1
  have key:(packT t).2=0→fullT t=true:=pack_full
  generalize packT t=q at *
  obtain ⟨a,e⟩:=q
  refine Ev.bind hp ?_
  refine Ev.n (fun h0=>Ev.pure' ?_) (fun h0=>?_)
  · rw [if_neg h0]
  · rw [if_pos h0]
    refine Ev.bind (ev_rdeep t h.1) (Ev.d (fun h1=>Ev.pure' ?_) (fun h1=>?_))
    · rw [if_pos (by omega)]
    · rw [if_neg (by omega)]
      refine Ev.bind (ev_is5 t (h.2 (key h0)) c) ?_
      cases isT c t
      · exact Ev.isT rfl Ev.pure
      · exact Ev.isF rfl Ev.pure
end

theorem chk_small {c:Int} {t:Tr} (h1:fullT t=true) (h2:sizeT t≤8192) (h3:deepT t≤60):chk c t=if isT c t=true then 0 else 16:=by
  have e:packT t=(cellsT t 0,0):=by unfold packT; rw [if_pos h1,if_neg (by omega)]
  unfold chk
  rw [e,if_pos rfl,if_neg (by omega)]
theorem good_nodes {p:List Cell} (hv:Valid p p.length) (hb:∀ c∈p,c.2.2.1.length≤1099511627776∧c.2.2.2.1.length≤1099511627776∧c.2.2.2.2.length≤1099511627776):∀ n i:Nat,i<n→i<p.length→Good ((nodesL p).getD i .nil):=by
  intro n
  induction n with
  | zero=>intro i h; omega
  | succ n ih =>
    intro i hi hl
    rw [nodesL_at hl]
    obtain ⟨b1,b2,b3⟩:=hb _ (List.getElem_mem hl)
    refine .mk b1 b2 (by simpa using b3) fun x hx=>?_
    obtain ⟨k,hk,rfl⟩:=List.mem_map.1 hx
    have:=hv i hl hl k hk
    rw [nodesL_getD (by omega) (by omega)]
    exact ih _ (by omega) (by omega)
end Go.Proofs.YtjhfgiieicloeaaGreatDoor

/- Texts in signs; lists of one or two kids. -/
namespace Go.Proofs.YtjhfgiieicloeaaGreatDoor
open Go Go.Am Go.Sx
def par (b:Bool) (s:List UInt8):List UInt8:=if b=true then [40,32]++s++[32,41] else s
theorem par_len (b:Bool) (s:List UInt8):(par b s).length≤s.length+4:=by
  unfold par; split <;> simp
theorem ck_len {s:List UInt8} (h:ckS s=true):s.length≤32:=by
  unfold ckS nmS at h
  simp only [Bool.and_eq_true,decide_eq_true_eq] at h
  exact h.1.2.1
theorem lg_len {s:List UInt8} (h:lgS s=true):s.length≤128:=by
  unfold lgS at h
  simp only [Bool.and_eq_true,decide_eq_true_eq] at h
  exact h.1
theorem k2S_form {p q:Tr→Bool} {l:List Tr} (h:k2S p q l=true):∃ x y,l=[x,y]∧p x=true∧q y=true:=by
  match l,h with
  | [x,y],h=>exact ⟨x,y,rfl,by simpa [k2S] using h⟩
theorem k1S_form {p:Tr→Bool} {l:List Tr} (h:k1S p l=true):∃ x,l=[x]∧p x=true:=by
  match l,h with
  | [x],h=>exact ⟨x,rfl,by simpa [k1S] using h⟩
theorem node_of {c:Int} {t:Tr} (h:isT c t=true):∃ k n nm mk ks,t=.node k n nm mk ks:=by
  cases t with
  | nil=>rw [isT_nil] at h; cases h
  | node k n nm mk ks=>exact ⟨k,n,nm,mk,ks,rfl⟩
theorem kind1 {k n:Int} {nm mk:List UInt8} {ks:List Tr} (h:isT 1 (.node k n nm mk ks)=true):k=1∨k=2∨k=3∨k=4∨k=5∨k=6∨k=7:=by
  by_cases e:k∈kindsOf 1
  · simpa [show kindsOf 1=[1,2,3,4,5,6,7] from rfl] using e
  · rw [isT_none e] at h; cases h
end Go.Proofs.YtjhfgiieicloeaaGreatDoor

