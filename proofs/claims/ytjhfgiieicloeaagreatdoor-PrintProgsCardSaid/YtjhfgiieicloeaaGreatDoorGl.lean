/- Joined texts: K2, K5, K6, K7c. -/
import Derived.Test.YtjhfgiieicloeaaGreatDoorGw
import Derived.Test.YtjhfgiieicloeaaGreatDoorGq
import Derived.Test.YtjhfgiieicloeaaGreatDoorGk
/- The forms of modules, signatures, specifications, declarations. Printed by gen9/k2.py. -/
namespace Go.Proofs.YtjhfgiieicloeaaGreatDoor
open Go Go.Am Go.Sx
theorem body_parts3 {n:Int} {nm mk:List UInt8} {ks:List Tr} {r:Row} (h:bodyS isT n nm mk ks r=true):wordS nm r.2.2.1=true∧wordS mk r.2.2.2.1=true∧(r.2.2.2.2.1≤n∧n≤r.2.2.2.2.2.1)∧kidsS isT r.2.2.2.2.2.2 ks=true:=body_parts h
theorem kid_1 {a:UInt8} {c:Int} {l:List Tr} (h1:a≠42) (h2:a≠67) (h3:a≠65) (hc:catS a=c) (h:kidsS isT [a] l=true):∃ x,l=[x]∧isT c x=true:=by
  rw [kidsS_1 h1 h2 h3 hc] at h
  exact k1S_form h
theorem kid_2 {a b:UInt8} {c d:Int} {l:List Tr} (h1:a≠42) (h2:a≠67) (h3:a≠65) (g1:b≠42) (g2:b≠67) (g3:b≠65) (hc:catS a=c) (hd:catS b=d) (h:kidsS isT [a,b] l=true):∃ x y,l=[x,y]∧isT c x=true∧isT d y=true:=by
  rw [kidsS_2 h1 h2 h3 g1 g2 g3 hc hd] at h
  exact k2S_form h
theorem kid_C {l:List Tr} (h:kidsS isT [67] l=true):consGo (isT 8) [] l=true∧l≠[]:=by
  rw [k_C,Bool.and_eq_true] at h
  refine ⟨h.1,fun e=>?_⟩
  rw [e] at h; simp at h
theorem inner_of {y:Tr} (h:innerS y=true):isT 6 y=true∧kindOf y≠74∧kindOf y≠75:=by
  unfold innerS notI at h
  rw [Bool.and_eq_true] at h
  refine ⟨h.1,fun e=>?_,fun e=>?_⟩
  · have:=h.2; rw [e] at this; cases this
  · have:=h.2; rw [e] at this; cases this
inductive Md:Tr→Prop
  | strc (ks:List Tr) (hk:∀ y∈ks,isT 6 y=true∧kindOf y≠74∧kindOf y≠75):Md (.node 40 0 [] [] ks)
  | path (s:List UInt8) (h:lgS s=true):Md (.node 41 0 s [] [])
  | app (s:List UInt8) (a:Tr) (h:ckS s=true) (ha:isT 3 a=true):Md (.node 42 0 s [] [a])
  | sl (n:Int) (a:Tr) (b:Tr) (hn:n=0∨n=1) (ha:isT 3 a=true) (hb:isT 4 b=true):Md (.node 43 n [] [] [a,b])
theorem md_of {t:Tr} (h:isT 3 t=true):Md t:=by
  obtain ⟨k,n,nm,mk,ks,rfl⟩:=node_of h
  have hk:k∈kindsOf 3:=by
    by_cases e:k∈kindsOf 3
    · exact e
    · rw [isT_none e] at h; cases h
  have hk:k=40∨k=41∨k=42∨k=43:=by
    have e:kindsOf 3=[40,41,42,43]:=rfl
    rw [e] at hk
    simp only [List.mem_cons,List.not_mem_nil,or_false] at hk
    omega
  rcases hk with rfl | rfl | rfl | rfl
  · rw [isT_row (r:=(3,40,[],[],0,0,[42,105])) rfl] at h
    obtain ⟨h1,h2,h3,h4⟩:=body_parts3 h
    obtain rfl:=word_e h1
    obtain rfl:=word_e h2
    have h3:0≤n∧n≤0:=h3
    obtain rfl:n=0:=by omega
    rw [k_i] at h4
    exact .strc ks (fun y hy=>inner_of (List.all_eq_true.1 h4 y hy))
  · rw [isT_row (r:=(3,41,[108],[],0,0,[])) rfl] at h
    obtain ⟨h1,h2,h3,h4⟩:=body_parts3 h
    obtain rfl:=word_e h2
    have h3:0≤n∧n≤0:=h3
    obtain rfl:n=0:=by omega
    obtain rfl:=kid_0 h4
    exact .path nm h1
  · rw [isT_row (r:=(3,42,[110],[],0,0,[109])) rfl] at h
    obtain ⟨h1,h2,h3,h4⟩:=body_parts3 h
    obtain rfl:=word_e h2
    have h3:0≤n∧n≤0:=h3
    obtain rfl:n=0:=by omega
    obtain ⟨x,rfl,hx⟩:=kid_1 (c:=3) (by decide) (by decide) (by decide) rfl h4
    exact .app nm x h1 hx
  · rw [isT_row (r:=(3,43,[],[],0,1,[109,115])) rfl] at h
    obtain ⟨h1,h2,h3,h4⟩:=body_parts3 h
    obtain rfl:=word_e h1
    obtain rfl:=word_e h2
    have h3:0≤n∧n≤1:=h3
    obtain ⟨x,y,rfl,hx,hy⟩:=kid_2 (c:=3) (d:=4) (by decide) (by decide) (by decide) (by decide) (by decide) (by decide) rfl rfl h4
    exact .sl n x y (by omega) hx hy
inductive Sg:Tr→Prop
  | bod (ks:List Tr) (hk:∀ y∈ks,isT 5 y=true):Sg (.node 50 0 [] [] ks)
  | nam (s:List UInt8) (h:ckS s=true):Sg (.node 51 0 s [] [])
  | whr (s:List UInt8) (a:Tr) (b:Tr) (h:lgS s=true) (ha:isT 4 a=true) (hb:isT 1 b=true):Sg (.node 52 0 s [] [a,b])
theorem sg_of {t:Tr} (h:isT 4 t=true):Sg t:=by
  obtain ⟨k,n,nm,mk,ks,rfl⟩:=node_of h
  have hk:k∈kindsOf 4:=by
    by_cases e:k∈kindsOf 4
    · exact e
    · rw [isT_none e] at h; cases h
  have hk:k=50∨k=51∨k=52:=by
    have e:kindsOf 4=[50,51,52]:=rfl
    rw [e] at hk
    simp only [List.mem_cons,List.not_mem_nil,or_false] at hk
    omega
  rcases hk with rfl | rfl | rfl
  · rw [isT_row (r:=(4,50,[],[],0,0,[42,112])) rfl] at h
    obtain ⟨h1,h2,h3,h4⟩:=body_parts3 h
    obtain rfl:=word_e h1
    obtain rfl:=word_e h2
    have h3:0≤n∧n≤0:=h3
    obtain rfl:n=0:=by omega
    rw [k_p] at h4
    exact .bod ks (fun y hy=>List.all_eq_true.1 h4 y hy)
  · rw [isT_row (r:=(4,51,[110],[],0,0,[])) rfl] at h
    obtain ⟨h1,h2,h3,h4⟩:=body_parts3 h
    obtain rfl:=word_e h2
    have h3:0≤n∧n≤0:=h3
    obtain rfl:n=0:=by omega
    obtain rfl:=kid_0 h4
    exact .nam nm h1
  · rw [isT_row (r:=(4,52,[108],[],0,0,[115,116])) rfl] at h
    obtain ⟨h1,h2,h3,h4⟩:=body_parts3 h
    obtain rfl:=word_e h2
    have h3:0≤n∧n≤0:=h3
    obtain rfl:n=0:=by omega
    obtain ⟨x,y,rfl,hx,hy⟩:=kid_2 (c:=4) (d:=1) (by decide) (by decide) (by decide) (by decide) (by decide) (by decide) rfl rfl h4
    exact .whr nm x y h1 hx hy
inductive Sp:Tr→Prop
  | val (s:List UInt8) (a:Tr) (h:ckS s=true) (ha:isT 1 a=true):Sp (.node 60 0 s [] [a])
  | ty1 (s:List UInt8) (a:Tr) (h:ckS s=true) (ha:isT 1 a=true):Sp (.node 61 0 s [] [a])
  | ty0 (s:List UInt8) (h:ckS s=true):Sp (.node 61 0 s [] [])
  | dat (s:List UInt8) (ks:List Tr) (h:ckS s=true) (hk:consGo (isT 8) [] ks=true) (h0:ks≠[]):Sp (.node 62 0 s [] ks)
  | str (s:List UInt8) (a:Tr) (h:ckS s=true) (ha:isT 4 a=true):Sp (.node 63 0 s [] [a])
  | inc (a:Tr) (ha:isT 4 a=true):Sp (.node 64 0 [] [] [a])
  | shr (s:List UInt8) (x:List UInt8) (h:lgS s=true) (hx:lgS x=true):Sp (.node 65 0 s x [])
theorem sp_of {t:Tr} (h:isT 5 t=true):Sp t:=by
  obtain ⟨k,n,nm,mk,ks,rfl⟩:=node_of h
  have hk:k∈kindsOf 5:=by
    by_cases e:k∈kindsOf 5
    · exact e
    · rw [isT_none e] at h; cases h
  have hk:k=60∨k=61∨k=62∨k=63∨k=64∨k=65:=by
    have e:kindsOf 5=[60,61,61,62,63,64,65]:=rfl
    rw [e] at hk
    simp only [List.mem_cons,List.not_mem_nil,or_false] at hk
    omega
  rcases hk with rfl | rfl | rfl | rfl | rfl | rfl
  · rw [isT_row (r:=(5,60,[110],[],0,0,[116])) rfl] at h
    obtain ⟨h1,h2,h3,h4⟩:=body_parts3 h
    obtain rfl:=word_e h2
    have h3:0≤n∧n≤0:=h3
    obtain rfl:n=0:=by omega
    obtain ⟨x,rfl,hx⟩:=kid_1 (c:=1) (by decide) (by decide) (by decide) rfl h4
    exact .val nm x h1 hx
  · rw [isT_rows (r:=(5,61,[110],[],0,0,[116])) (r':=(5,61,[110],[],0,0,[])) rfl,Bool.or_eq_true] at h
    rcases h with h | h
    · obtain ⟨h1,h2,h3,h4⟩:=body_parts3 h
      obtain rfl:=word_e h2
      have h3:0≤n∧n≤0:=h3
      obtain rfl:n=0:=by omega
      obtain ⟨x,rfl,hx⟩:=kid_1 (c:=1) (by decide) (by decide) (by decide) rfl h4
      exact .ty1 nm x h1 hx
    · obtain ⟨h1,h2,h3,h4⟩:=body_parts3 h
      obtain rfl:=word_e h2
      have h3:0≤n∧n≤0:=h3
      obtain rfl:n=0:=by omega
      obtain rfl:=kid_0 h4
      exact .ty0 nm h1
  · rw [isT_row (r:=(5,62,[110],[],0,0,[67])) rfl] at h
    obtain ⟨h1,h2,h3,h4⟩:=body_parts3 h
    obtain rfl:=word_e h2
    have h3:0≤n∧n≤0:=h3
    obtain rfl:n=0:=by omega
    obtain ⟨g1,g2⟩:=kid_C h4
    exact .dat nm ks h1 g1 g2
  · rw [isT_row (r:=(5,63,[110],[],0,0,[115])) rfl] at h
    obtain ⟨h1,h2,h3,h4⟩:=body_parts3 h
    obtain rfl:=word_e h2
    have h3:0≤n∧n≤0:=h3
    obtain rfl:n=0:=by omega
    obtain ⟨x,rfl,hx⟩:=kid_1 (c:=4) (by decide) (by decide) (by decide) rfl h4
    exact .str nm x h1 hx
  · rw [isT_row (r:=(5,64,[],[],0,0,[115])) rfl] at h
    obtain ⟨h1,h2,h3,h4⟩:=body_parts3 h
    obtain rfl:=word_e h1
    obtain rfl:=word_e h2
    have h3:0≤n∧n≤0:=h3
    obtain rfl:n=0:=by omega
    obtain ⟨x,rfl,hx⟩:=kid_1 (c:=4) (by decide) (by decide) (by decide) rfl h4
    exact .inc x hx
  · rw [isT_row (r:=(5,65,[108],[108],0,0,[])) rfl] at h
    obtain ⟨h1,h2,h3,h4⟩:=body_parts3 h
    have h3:0≤n∧n≤0:=h3
    obtain rfl:n=0:=by omega
    obtain rfl:=kid_0 h4
    exact .shr nm mk h1 h2
inductive Dc:Tr→Prop
  | va1 (s:List UInt8) (a:Tr) (h:ckS s=true) (ha:isT 2 a=true):Dc (.node 70 0 s [] [a])
  | va2 (s:List UInt8) (a:Tr) (b:Tr) (h:ckS s=true) (ha:isT 1 a=true) (hb:isT 2 b=true):Dc (.node 70 0 s [] [a,b])
  | ty (s:List UInt8) (a:Tr) (h:ckS s=true) (ha:isT 1 a=true):Dc (.node 71 0 s [] [a])
  | dat (s:List UInt8) (ks:List Tr) (h:ckS s=true) (hk:consGo (isT 8) [] ks=true) (h0:ks≠[]):Dc (.node 72 0 s [] ks)
  | str (s:List UInt8) (a:Tr) (h:ckS s=true) (ha:isT 3 a=true):Dc (.node 73 0 s [] [a])
  | sig (s:List UInt8) (a:Tr) (h:ckS s=true) (ha:isT 4 a=true):Dc (.node 74 0 s [] [a])
  | fun_ (s:List UInt8) (x:List UInt8) (a:Tr) (b:Tr) (h:ckS s=true) (hx:ckS x=true) (ha:isT 4 a=true) (hb:isT 3 b=true):Dc (.node 75 0 s x [a,b])
  | opn (s:List UInt8) (h:lgS s=true):Dc (.node 76 0 s [] [])
  | inc (s:List UInt8) (h:lgS s=true):Dc (.node 77 0 s [] [])
theorem dc_of {t:Tr} (h:isT 6 t=true):Dc t:=by
  obtain ⟨k,n,nm,mk,ks,rfl⟩:=node_of h
  have hk:k∈kindsOf 6:=by
    by_cases e:k∈kindsOf 6
    · exact e
    · rw [isT_none e] at h; cases h
  have hk:k=70∨k=71∨k=72∨k=73∨k=74∨k=75∨k=76∨k=77:=by
    have e:kindsOf 6=[70,70,71,72,73,74,75,76,77]:=rfl
    rw [e] at hk
    simp only [List.mem_cons,List.not_mem_nil,or_false] at hk
    omega
  rcases hk with rfl | rfl | rfl | rfl | rfl | rfl | rfl | rfl
  · rw [isT_rows (r:=(6,70,[110],[],0,0,[101])) (r':=(6,70,[110],[],0,0,[116,101])) rfl,Bool.or_eq_true] at h
    rcases h with h | h
    · obtain ⟨h1,h2,h3,h4⟩:=body_parts3 h
      obtain rfl:=word_e h2
      have h3:0≤n∧n≤0:=h3
      obtain rfl:n=0:=by omega
      obtain ⟨x,rfl,hx⟩:=kid_1 (c:=2) (by decide) (by decide) (by decide) rfl h4
      exact .va1 nm x h1 hx
    · obtain ⟨h1,h2,h3,h4⟩:=body_parts3 h
      obtain rfl:=word_e h2
      have h3:0≤n∧n≤0:=h3
      obtain rfl:n=0:=by omega
      obtain ⟨x,y,rfl,hx,hy⟩:=kid_2 (c:=1) (d:=2) (by decide) (by decide) (by decide) (by decide) (by decide) (by decide) rfl rfl h4
      exact .va2 nm x y h1 hx hy
  · rw [isT_row (r:=(6,71,[110],[],0,0,[116])) rfl] at h
    obtain ⟨h1,h2,h3,h4⟩:=body_parts3 h
    obtain rfl:=word_e h2
    have h3:0≤n∧n≤0:=h3
    obtain rfl:n=0:=by omega
    obtain ⟨x,rfl,hx⟩:=kid_1 (c:=1) (by decide) (by decide) (by decide) rfl h4
    exact .ty nm x h1 hx
  · rw [isT_row (r:=(6,72,[110],[],0,0,[67])) rfl] at h
    obtain ⟨h1,h2,h3,h4⟩:=body_parts3 h
    obtain rfl:=word_e h2
    have h3:0≤n∧n≤0:=h3
    obtain rfl:n=0:=by omega
    obtain ⟨g1,g2⟩:=kid_C h4
    exact .dat nm ks h1 g1 g2
  · rw [isT_row (r:=(6,73,[110],[],0,0,[109])) rfl] at h
    obtain ⟨h1,h2,h3,h4⟩:=body_parts3 h
    obtain rfl:=word_e h2
    have h3:0≤n∧n≤0:=h3
    obtain rfl:n=0:=by omega
    obtain ⟨x,rfl,hx⟩:=kid_1 (c:=3) (by decide) (by decide) (by decide) rfl h4
    exact .str nm x h1 hx
  · rw [isT_row (r:=(6,74,[110],[],0,0,[115])) rfl] at h
    obtain ⟨h1,h2,h3,h4⟩:=body_parts3 h
    obtain rfl:=word_e h2
    have h3:0≤n∧n≤0:=h3
    obtain rfl:n=0:=by omega
    obtain ⟨x,rfl,hx⟩:=kid_1 (c:=4) (by decide) (by decide) (by decide) rfl h4
    exact .sig nm x h1 hx
  · rw [isT_row (r:=(6,75,[110],[110],0,0,[115,109])) rfl] at h
    obtain ⟨h1,h2,h3,h4⟩:=body_parts3 h
    have h3:0≤n∧n≤0:=h3
    obtain rfl:n=0:=by omega
    obtain ⟨x,y,rfl,hx,hy⟩:=kid_2 (c:=4) (d:=3) (by decide) (by decide) (by decide) (by decide) (by decide) (by decide) rfl rfl h4
    exact .fun_ nm mk x y h1 h2 hx hy
  · rw [isT_row (r:=(6,76,[108],[],0,0,[])) rfl] at h
    obtain ⟨h1,h2,h3,h4⟩:=body_parts3 h
    obtain rfl:=word_e h2
    have h3:0≤n∧n≤0:=h3
    obtain rfl:n=0:=by omega
    obtain rfl:=kid_0 h4
    exact .opn nm h1
  · rw [isT_row (r:=(6,77,[108],[],0,0,[])) rfl] at h
    obtain ⟨h1,h2,h3,h4⟩:=body_parts3 h
    obtain rfl:=word_e h2
    have h3:0≤n∧n≤0:=h3
    obtain rfl:n=0:=by omega
    obtain rfl:=kid_0 h4
    exact .inc nm h1
theorem prog_of {t:Tr} (h:isT 7 t=true):∃ ks,t=.node 80 0 [] [] ks∧∀ y∈ks,isT 6 y=true:=by
  obtain ⟨k,n,nm,mk,ks,rfl⟩:=node_of h
  have hk:k∈kindsOf 7:=by
    by_cases e:k∈kindsOf 7
    · exact e
    · rw [isT_none e] at h; cases h
  have hk:k=80:=by simpa [show kindsOf 7=[80] from rfl] using hk
  subst hk
  rw [isT_row (r:=(7,80,[],[],0,0,[42,100])) rfl] at h
  obtain ⟨h1,h2,h3,h4⟩:=body_parts3 h
  obtain rfl:=word_e h1
  obtain rfl:=word_e h2
  have h3:0≤n∧n≤0:=h3
  obtain rfl:n=0:=by omega
  rw [k_d] at h4
  exact ⟨ks,rfl,fun y hy=>List.all_eq_true.1 h4 y hy⟩
end Go.Proofs.YtjhfgiieicloeaaGreatDoor

/- What the program writes of a module, a signature, a specification, a declaration is what the document writes. Printed by gen9/k4.py. -/
namespace Go.Proofs.YtjhfgiieicloeaaGreatDoor
open Go Go.Am Go.Sx
theorem ev_Expr {t:Tr} (h:Fine t):Ev (fun K=>shape_Expr K t) (chk 2 t):=Ev.congr (f:=fun _K=>_) (Ev.ret (Ev.congr (f:=fun _K=>_) (ev_chk (f:=shape_isExpr) h fun g=>(ev_expr t g).1) (fun _=>rfl))) (fun _=>rfl)
structure Ty9 (y:Tr) (v:List UInt8):Prop where
  p:Ev (fun K=>print_typ K y) v
  r6:Ev (fun K=>ref06_Text K y) v
  r:Ev (fun K=>ref09_Text K y) v
  len:v.length≤200 * y.w
  ne:v≠[]
structure Sm (y:Tr):Prop where
  g:Good y
  w:y.w≤1048576
  s:sizeT y≤8192
  d:deepT y≤60
theorem Sm.kid {k n:Int} {nm mk:List UInt8} {ks:List Tr} (h:Sm (.node k n nm mk ks)) {y:Tr} (hy:y∈ks):Sm y:=by
  obtain ⟨hg,hw,hs,hd⟩:=h
  cases hg with
  | mk g1 g2 g3 g4 =>
    rw [w_node] at hw
    rw [sizeT_node] at hs
    rw [deepT_node] at hd
    exact ⟨g4 y hy,by have:=wL_mem hy; omega,by have:=sizeL_mem hy; omega,by have:=deepL_mem (d:=0) hy; omega⟩
theorem ty9 {y:Tr} (h:Sm y) (hi:isT 1 y=true):∃ v,Ty9 y v:=by
  obtain ⟨hg,hw,hs,hd⟩:=h
  obtain ⟨v,h1,h2,h3,h4⟩:=(txt_all y hg hw).1 hi
  have hf:Fine y:=⟨by omega,fun _=>hg⟩
  have h0:chk 1 y=0:=by rw [chk_small (good_full y hg) hs hd,if_pos hi]
  have v0:=h1 0
  rw [need0] at v0
  have e:Ev (fun K=>ptype_Write K y) (v,0):=Ev.congr (f:=fun K=>_) (Ev.bind (ev_Type hf) (Ev.nF h0 (Ev.bind v0 (Ev.pure' rfl)))) (fun _=>rfl)
  refine ⟨v,Ev.congr (f:=fun K=>_) (Ev.bind e Ev.pure) (fun k=>by rw [print_typ]),h2,?_,h3,h4⟩
  obtain ⟨k,n,nm,mk,ks,rfl⟩:=node_of hi
  have hk:=kind1 hi
  refine Ev.step (fun k=>by rw [ref09_Text]) ?_
  exact Ev.dT (by omega) (Ev.ret h2)
theorem ex9 {y:Tr} (h:Sm y) (hi:isT 2 y=true):∃ v,Ev (fun K=>print_expr K y) v∧Ev (fun K=>ref09_Text K y) v∧v.length≤200 * y.w:=by
  obtain ⟨hg,hw,hs,hd⟩:=h
  obtain ⟨v,hv⟩:=(wr_all y hg hw hs hd).1 hi
  have hf:Fine y:=⟨by omega,fun _=>hg⟩
  have h0:chk 2 y=0:=by rw [chk_small (good_full y hg) hs hd,if_pos hi]
  have e:Ev (fun K=>pexpr_Write K y) (v,0):=Ev.congr (f:=fun K=>_) (Ev.bind (ev_Expr hf) (Ev.nF h0 (Ev.bind hv.pw.zero (Ev.pure' rfl)))) (fun _=>rfl)
  refine ⟨v,Ev.congr (f:=fun K=>_) (Ev.bind e Ev.pure) (fun k=>by rw [print_expr]),?_,hv.len⟩
  have hk:∃ k n nm mk ks,y=.node k n nm mk ks∧20≤k∧k<40:=by
    cases ex_of hi <;> exact ⟨_,_,_,_,_,rfl,by decide,by decide⟩
  obtain ⟨k,n,nm,mk,ks,rfl,k1,k2⟩:=hk
  refine Ev.step (fun k=>by rw [ref09_Text]) ?_
  exact Ev.dF (by omega) (Ev.dT k2 (Ev.ret hv.rw'.2))
structure Wm (f:Nat→Tr→Option (List UInt8)) (t:Tr) (v:List UInt8):Prop where
  p:Ev (fun K=>f K t) v
  r:Ev (fun K=>ref09_Text K t) v
  len:v.length+1≤400 * t.w
  ne:v≠[]
theorem list_of {f:Nat→Tr→Option (List UInt8)}:∀ r:List Tr,(∀ y∈r,∃ v,Wm f y v)→∃ L:List TX,r=L.map Prod.fst∧∀ a∈L,Wm f a.1 a.2
  | [],_=>⟨[],rfl,fun a h=>by cases h⟩
  | y :: r,h=>by
    obtain ⟨L,rfl,hL⟩:=list_of r fun z hz=>h z (List.mem_cons_of_mem _ hz)
    obtain ⟨v,hv⟩:=h y List.mem_cons_self
    refine ⟨(y,v) :: L,rfl,fun a ha=>?_⟩
    rcases List.mem_cons.1 ha with rfl | ha
    · exact hv
    · exact hL a ha
theorem list_lw {f:Nat→Tr→Option (List UInt8)}:∀ L:List TX,(∀ a∈L,Wm f a.1 a.2)→lw (L.map Prod.snd)≤400 * wL (L.map Prod.fst)
  | [],_=>by simp [lw]
  | a :: L,h=>by
    have h1:=(h a List.mem_cons_self).len
    have h2:=list_lw L fun x hx=>h x (List.mem_cons_of_mem _ hx)
    rw [List.map_cons,List.map_cons,lw,wL_cons]
    omega
theorem con_of {y:Tr} (h:isT 8 y=true):∃ c t,y=.node 8 0 c [] [t]∧ckS c=true∧isT 1 t=true:=by
  obtain ⟨k,n,nm,mk,ks,rfl⟩:=node_of h
  have hk:k=8:=by
    by_cases e:k∈kindsOf 8
    · simpa [show kindsOf 8=[8] from rfl] using e
    · rw [isT_none e] at h; cases h
  subst hk
  rw [isT_row (r:=(8,8,[110],[],0,0,[116])) rfl] at h
  obtain ⟨h1,h2,h3,h4⟩:=body_parts h
  obtain rfl:=word_e h2
  obtain ⟨x,rfl,hx⟩:=kid_1 (c:=1) (by decide) (by decide) (by decide) rfl h4
  have h3:0≤n∧n≤0:=h3
  obtain rfl:n=0:=by omega
  exact ⟨nm,x,rfl,h1,hx⟩
theorem cons_of:∀ (l:List Tr) (s:List (List UInt8)),consGo (isT 8) s l=true→(∀ y∈l,Sm y)→∃ L:List CN,l=L.map cnT∧∀ a∈L,ckS a.1=true∧Ty9 a.2.1 a.2.2∧Sm a.2.1
  | [],_,_,_=>⟨[],rfl,fun a h=>by cases h⟩
  | x :: l,s,h,hs=>by
    unfold consGo at h
    simp only [Bool.and_eq_true] at h
    obtain ⟨L,rfl,hL⟩:=cons_of l _ h.2.2 fun z hz=>hs z (List.mem_cons_of_mem _ hz)
    obtain ⟨c,t,rfl,hc,ht⟩:=con_of h.1
    have st:=(hs _ List.mem_cons_self).kid (y:=t) (by simp)
    obtain ⟨v,hv⟩:=ty9 st ht
    refine ⟨(c,t,v) :: L,rfl,fun a ha=>?_⟩
    rcases List.mem_cons.1 ha with rfl | ha
    · exact ⟨hc,hv,st⟩
    · exact hL a ha
end Go.Proofs.YtjhfgiieicloeaaGreatDoor

/- Every module, signature, specification, declaration is written by both, the same text. Printed by gen9/k6.py. -/
namespace Go.Proofs.YtjhfgiieicloeaaGreatDoor
open Go Go.Am Go.Sx
theorem jf_ne {l:List (List UInt8)} {x:List UInt8} (hx:x∈l) (h:x≠[]):jf l≠[]:=fun e=>by
  have hf:=jf_none.1 e
  have:x∈l.filter ne:=List.mem_filter.2 ⟨hx,ne_of h⟩
  rw [hf] at this; cases this
theorem jf_one {x:List UInt8} (h:x≠[]):jf [x]=x:=by rw [jf_c h]; simp [Lib.joinTail]
theorem ck_ne {s:List UInt8} (h:ckS s=true):s≠[]:=by rintro rfl; exact absurd h (by decide +kernel)
theorem lg_ne {s:List UInt8} (h:lgS s=true):s≠[]:=by rintro rfl; exact absurd h (by decide +kernel)
theorem Ev.eq {α:Type} {f:Nat→Option α} {a b:α} (h:Ev f a) (e:a=b):Ev f b:=e ▸ h
theorem cons_x {L:List CN} (h:∀ a∈L,ckS a.1=true∧Ty9 a.2.1 a.2.2∧Sm a.2.1):L.map cnX=L.map cnR9:=List.map_congr_left fun a ha=>cnR_X (ck_ne (h a ha).1) (h a ha).2.1.ne
theorem cnT_w (a:CN):(cnT a).w=1+a.2.1.w:=by unfold cnT; rw [w_node,wL_cons,wL_nil]; omega
theorem cons_tl:∀ {L:List CN},(∀ a∈L,ckS a.1=true∧Ty9 a.2.1 a.2.2∧Sm a.2.1)→(Lib.joinTail barC (L.map cnR9)).length≤400 * wL (L.map cnT)
  | [],_=>by simp [Lib.joinTail]
  | a :: L,h=>by
    have ih:=cons_tl (L:=L) fun x hx=>h x (List.mem_cons_of_mem _ hx)
    obtain ⟨h1,h2,_⟩:=h a List.mem_cons_self
    have:=ck_len h1
    have:=h2.len
    have e:(cnR9 a).length=a.1.length+4+a.2.2.length:=by unfold cnR9; simp; omega
    rw [List.map_cons,List.map_cons,jtail_cons,wL_cons,cnT_w]
    simp only [List.length_append,List.length_cons,List.length_nil]
    omega
theorem cons_bd {L:List CN} (h:∀ a∈L,ckS a.1=true∧Ty9 a.2.1 a.2.2∧Sm a.2.1):(Lib.join (L.map cnR9) barC).length≤400 * wL (L.map cnT):=by
  have:=cons_tl h
  cases L with
  | nil=>simp [Lib.join_nil]
  | cons a L =>
    rw [List.map_cons,jtail_cons] at this
    rw [List.map_cons,Lib.join_cons]
    simp only [List.length_append,List.length_cons,List.length_nil] at this ⊢
    rw [List.map_cons] at this ⊢
    omega
theorem dat9 {n:Int} {nm mk:List UInt8} {ks:List Tr} (hs:∀ y∈ks,Sm y) (hw:wL ks≤1048576) (h:ckS nm=true) (hk:consGo (isT 8) [] ks=true) :
    ∃ v,(Ev (fun K=>print_spec K (.node 62 n nm mk ks)) v∧Ev (fun K=>ref09_Text K (.node 62 n nm mk ks)) v)∧(Ev (fun K=>print_decl K (.node 72 n nm mk ks)) v∧Ev (fun K=>ref09_Text K (.node 72 n nm mk ks)) v)∧v.length+1≤400 * (1+wL ks)∧v≠[]:=by
  obtain ⟨L,rfl,hL⟩:=cons_of ks [] hk hs
  have hb:=cons_bd hL
  have hl:=wL_len (L.map cnT)
  rw [List.length_map] at hl
  have hn:=ck_len h
  have hx:cnsX L=Lib.join (L.map cnR9) barC:=by unfold cnsX; rw [cons_x hL]
  have ok:∀ a∈L,CnOk a:=fun a ha=>by
    obtain ⟨h1,h2,h3⟩:=hL a ha
    have:=ck_len h1
    have:=h2.len
    have:=h3.w
    exact ⟨by omega,by omega,h2.p⟩
  have r6:∀ a∈L,Ev (fun K=>ref06_Text K a.2.1) a.2.2:=fun a ha=>(hL a ha).2.1.r6
  refine ⟨jf [[100,97,116,97,116,121,112,101],nm,[61],cnsX L],⟨ps_dat (by omega) ok (by omega) (by rw [hx]; omega),?_⟩,⟨pd_dat (by omega) ok (by omega) (by rw [hx]; omega),?_⟩,?_,jf_ne List.mem_cons_self (by simp)⟩
  · rw [hx]; exact rt_pdat (by omega) r6 (by omega) (by omega)
  · rw [hx]; exact rt_ddat (by omega) r6 (by omega) (by omega)
  · have:=jf_lw [[100,97,116,97,116,121,112,101],nm,[61],cnsX L]
    simp only [lw,List.length_cons,List.length_nil] at this
    rw [hx] at this ⊢
    omega
theorem wm_all:∀ t:Tr,Sm t→(isT 3 t=true→∃ v,Wm print_mod t v)∧(isT 4 t=true→∃ v,Wm print_sig t v)∧(isT 5 t=true→∃ v,Wm print_spec t v)∧(isT 6 t=true→∃ v,Wm print_decl t v):=Tr.ind
  (fun h=>by cases h.g)
  fun k n nm mk ks ih hs=>by
    have hw:=hs.w
    rw [w_node] at hw
    have sub:∀ y∈ks,Sm y:=fun y hy=>hs.kid hy
    have ty:∀ y∈ks,isT 1 y=true→∃ v,Ty9 y v:=fun y hy=>ty9 (sub y hy)
    have ex:∀ y∈ks,isT 2 y=true→∃ v,Ev (fun K=>print_expr K y) v∧Ev (fun K=>ref09_Text K y) v∧v.length≤200 * y.w:=fun y hy=>ex9 (sub y hy)
    have mo:∀ y∈ks,isT 3 y=true→∃ v,Wm print_mod y v:=fun y hy=>(ih y hy (sub y hy)).1
    have si:∀ y∈ks,isT 4 y=true→∃ v,Wm print_sig y v:=fun y hy=>(ih y hy (sub y hy)).2.1
    have sp:∀ y∈ks,isT 5 y=true→∃ v,Wm print_spec y v:=fun y hy=>(ih y hy (sub y hy)).2.2.1
    have de:∀ y∈ks,isT 6 y=true→∃ v,Wm print_decl y v:=fun y hy=>(ih y hy (sub y hy)).2.2.2
    clear ih hs
    refine ⟨fun hi=>?_,fun hi=>?_,fun hi=>?_,fun hi=>?_⟩
    · cases md_of hi with
      | strc ks hk =>
        obtain ⟨L,rfl,hL⟩:=list_of (f:=print_decl) ks (fun y hy=>de y hy (hk y hy).1)
        have hl:=list_lw L hL
        have hn:=wL_len (L.map Prod.fst)
        rw [List.length_map] at hn
        have hj:=jf_lw (L.map Prod.snd)
        have e:=jf_all (l:=L.map Prod.snd) (fun v hv=>by
          obtain ⟨a,ha,rfl⟩:=List.mem_map.1 hv
          exact (hL a ha).ne)
        refine ⟨_,pm_strc (fun a ha=>(hL a ha).p) (by omega),Ev.eq (rt_strc (fun a ha=>(hL a ha).r) (by omega) (by rw [← e]; omega)) (by rw [← e]),?_,jf_ne (x:=[115,116,114,117,99,116]) List.mem_cons_self (by simp)⟩
        have:=jf_lw [[115,116,114,117,99,116],jf (L.map Prod.snd),[101,110,100]]
        simp only [lw,List.length_cons,List.length_nil] at this
        rw [w_node]
        omega
      | path s h =>
        have ls:=lg_len h
        exact ⟨_,pm_path,Ev.eq (rt_path (by omega)) (jf_one (lg_ne h)),by rw [w_node,wL_nil]; omega,lg_ne h⟩
      | app s a h ha =>
        obtain ⟨va,a0⟩:=mo a (by simp) ha
        have a1:=a0.p
        have a2:=a0.r
        have a3:=a0.len
        have ls:=ck_len h
        rw [wL_cons,wL_nil] at hw
        refine ⟨_,pm_app (by omega) a1 (by omega),rt_app (by omega) a2 (by omega),?_,jf_ne (x:=[40]) (by simp) (by simp)⟩
        have:=jf_lw [nm,[40],va,[41]]
        simp only [lw,List.length_cons,List.length_nil] at this
        rw [w_node,wL_cons,wL_nil]
        omega
      | sl n a b hn ha hb =>
        obtain ⟨va,a0⟩:=mo a (by simp) ha
        have a1:=a0.p
        have a2:=a0.r
        have a3:=a0.len
        obtain ⟨vb,b0⟩:=si b (by simp) hb
        have b1:=b0.p
        have b2:=b0.r
        have b3:=b0.len
        rw [wL_cons,wL_cons,wL_nil] at hw
        rcases hn with rfl | rfl
        · refine ⟨_,pm_sl a1 (by omega) b1 (by omega),rt_sl0 a2 (by omega) b2 (by omega),?_,jf_ne (x:=[58]) (by simp [sgn]) (by simp)⟩
          have:=jf_lw [va,[58],vb]
          simp only [lw,List.length_cons,List.length_nil] at this
          rw [w_node,wL_cons,wL_cons,wL_nil]
          show (jf [va,[58],vb]).length+1≤_
          omega
        · refine ⟨_,pm_sl a1 (by omega) b1 (by omega),rt_sl1 a2 (by omega) b2 (by omega),?_,jf_ne (x:=[58,62]) (by simp [sgn]) (by simp)⟩
          have:=jf_lw [va,[58,62],vb]
          simp only [lw,List.length_cons,List.length_nil] at this
          rw [w_node,wL_cons,wL_cons,wL_nil]
          show (jf [va,[58,62],vb]).length+1≤_
          omega
    · cases sg_of hi with
      | bod ks hk =>
        obtain ⟨L,rfl,hL⟩:=list_of (f:=print_spec) ks (fun y hy=>sp y hy (hk y hy))
        have hl:=list_lw L hL
        have hn:=wL_len (L.map Prod.fst)
        rw [List.length_map] at hn
        have hj:=jf_lw (L.map Prod.snd)
        have e:=jf_all (l:=L.map Prod.snd) (fun v hv=>by
          obtain ⟨a,ha,rfl⟩:=List.mem_map.1 hv
          exact (hL a ha).ne)
        refine ⟨_,pg_bod (fun a ha=>(hL a ha).p) (by omega),Ev.eq (rt_bod (fun a ha=>(hL a ha).r) (by omega) (by rw [← e]; omega)) (by rw [← e]),?_,jf_ne (x:=[115,105,103]) List.mem_cons_self (by simp)⟩
        have:=jf_lw [[115,105,103],jf (L.map Prod.snd),[101,110,100]]
        simp only [lw,List.length_cons,List.length_nil] at this
        rw [w_node]
        omega
      | nam s h =>
        have ls:=ck_len h
        exact ⟨_,pg_nam,Ev.eq (rt_nam (by omega)) (jf_one (ck_ne h)),by rw [w_node,wL_nil]; omega,ck_ne h⟩
      | whr s a b h ha hb =>
        obtain ⟨va,a0⟩:=si a (by simp) ha
        have a1:=a0.p
        have a2:=a0.r
        have a3:=a0.len
        obtain ⟨vb,b0⟩:=ty b (by simp) hb
        have b1:=b0.p
        have b2:=b0.r
        have b3:=b0.len
        have ls:=lg_len h
        rw [wL_cons,wL_cons,wL_nil] at hw
        refine ⟨_,pg_whr (by omega) a1 (by omega) b1 (by omega),Ev.eq (rt_whr (by omega) a2 (by omega) b2 (by omega)) (jf_two' va (by simp) (by simp) _),?_,jf_ne (x:=[119,104,101,114,101,32,116,121,112,101]) (by simp) (by simp)⟩
        have:=jf_lw [va,[119,104,101,114,101,32,116,121,112,101],nm,[61],vb]
        simp only [lw,List.length_cons,List.length_nil] at this
        rw [w_node,wL_cons,wL_cons,wL_nil]
        omega
    · cases sp_of hi with
      | val s a h ha =>
        obtain ⟨va,a0⟩:=ty a (by simp) ha
        have a1:=a0.p
        have a2:=a0.r
        have a3:=a0.len
        have ls:=ck_len h
        rw [wL_cons,wL_nil] at hw
        refine ⟨_,ps_val (by omega) a1 (by omega),rt_pval (by omega) a2 (by omega),?_,jf_ne (x:=[118,97,108]) List.mem_cons_self (by simp)⟩
        have:=jf_lw [[118,97,108],nm,[58],va]
        simp only [lw,List.length_cons,List.length_nil] at this
        rw [w_node,wL_cons,wL_nil]
        omega
      | ty1 s a h ha =>
        obtain ⟨va,a0⟩:=ty a (by simp) ha
        have a1:=a0.p
        have a2:=a0.r
        have a3:=a0.len
        have ls:=ck_len h
        rw [wL_cons,wL_nil] at hw
        refine ⟨_,ps_ty1 (by omega) a1 (by omega),rt_pty1 (by omega) a2 (by omega),?_,jf_ne (x:=[116,121,112,101]) List.mem_cons_self (by simp)⟩
        have:=jf_lw [[116,121,112,101],nm,[61],va]
        simp only [lw,List.length_cons,List.length_nil] at this
        rw [w_node,wL_cons,wL_nil]
        omega
      | ty0 s h =>
        have ls:=ck_len h
        refine ⟨_,ps_ty0 (by omega),rt_pty0 (by omega),?_,jf_ne (x:=[116,121,112,101]) List.mem_cons_self (by simp)⟩
        have:=jf_lw [[116,121,112,101],nm]
        simp only [lw,List.length_cons,List.length_nil] at this
        rw [w_node,wL_nil]
        omega
      | dat s ks h hk h0 =>
        obtain ⟨v,⟨h1,h2⟩,_,h3,h4⟩:=dat9 (n:=0) (mk:=[]) sub (by omega) h hk
        exact ⟨v,h1,h2,by rw [w_node]; exact h3,h4⟩
      | str s a h ha =>
        obtain ⟨va,a0⟩:=si a (by simp) ha
        have a1:=a0.p
        have a2:=a0.r
        have a3:=a0.len
        have ls:=ck_len h
        rw [wL_cons,wL_nil] at hw
        refine ⟨_,ps_str (by omega) a1 (by omega),rt_pstr (by omega) a2 (by omega),?_,jf_ne (x:=[115,116,114,117,99,116,117,114,101]) List.mem_cons_self (by simp)⟩
        have:=jf_lw [[115,116,114,117,99,116,117,114,101],nm,[58],va]
        simp only [lw,List.length_cons,List.length_nil] at this
        rw [w_node,wL_cons,wL_nil]
        omega
      | inc a ha =>
        obtain ⟨va,a0⟩:=si a (by simp) ha
        have a1:=a0.p
        have a2:=a0.r
        have a3:=a0.len
        rw [wL_cons,wL_nil] at hw
        refine ⟨_,ps_inc a1 (by omega),rt_pinc a2 (by omega),?_,jf_ne (x:=[105,110,99,108,117,100,101]) List.mem_cons_self (by simp)⟩
        have:=jf_lw [[105,110,99,108,117,100,101],va]
        simp only [lw,List.length_cons,List.length_nil] at this
        rw [w_node,wL_cons,wL_nil]
        omega
      | shr s x h hx =>
        have lx:=lg_len hx
        have ls:=lg_len h
        refine ⟨_,ps_shr (by omega) (by omega),Ev.eq (rt_pshr (by omega) (by omega)) (jf_two (by simp) (by simp) _),?_,jf_ne (x:=[115,104,97,114,105,110,103,32,116,121,112,101]) List.mem_cons_self (by simp)⟩
        have:=jf_lw [[115,104,97,114,105,110,103,32,116,121,112,101],nm,[61],mk]
        simp only [lw,List.length_cons,List.length_nil] at this
        rw [w_node,wL_nil]
        omega
    · cases dc_of hi with
      | va1 s a h ha =>
        obtain ⟨va,a1,a2,a3⟩:=ex a (by simp) ha
        have ls:=ck_len h
        rw [wL_cons,wL_nil] at hw
        refine ⟨_,pd_va1 (by omega) a1 (by omega),rt_va1 (by omega) a2 (by omega),?_,jf_ne (x:=[118,97,108]) List.mem_cons_self (by simp)⟩
        have:=jf_lw [[118,97,108],nm,[61],va]
        simp only [lw,List.length_cons,List.length_nil] at this
        rw [w_node,wL_cons,wL_nil]
        omega
      | va2 s a b h ha hb =>
        obtain ⟨va,a0⟩:=ty a (by simp) ha
        have a1:=a0.p
        have a2:=a0.r
        have a3:=a0.len
        obtain ⟨vb,b1,b2,b3⟩:=ex b (by simp) hb
        have ls:=ck_len h
        rw [wL_cons,wL_cons,wL_nil] at hw
        refine ⟨_,pd_va2 (by omega) a1 (by omega) b1 (by omega),rt_va2 (by omega) a2 (by omega) b2 (by omega),?_,jf_ne (x:=[118,97,108]) List.mem_cons_self (by simp)⟩
        have:=jf_lw [[118,97,108],nm,[58],va,[61],vb]
        simp only [lw,List.length_cons,List.length_nil] at this
        rw [w_node,wL_cons,wL_cons,wL_nil]
        omega
      | ty s a h ha =>
        obtain ⟨va,a0⟩:=ty a (by simp) ha
        have a1:=a0.p
        have a2:=a0.r
        have a3:=a0.len
        have ls:=ck_len h
        rw [wL_cons,wL_nil] at hw
        refine ⟨_,pd_ty (by omega) a1 (by omega),rt_ty (by omega) a2 (by omega),?_,jf_ne (x:=[116,121,112,101]) List.mem_cons_self (by simp)⟩
        have:=jf_lw [[116,121,112,101],nm,[61],va]
        simp only [lw,List.length_cons,List.length_nil] at this
        rw [w_node,wL_cons,wL_nil]
        omega
      | dat s ks h hk h0 =>
        obtain ⟨v,_,⟨h1,h2⟩,h3,h4⟩:=dat9 (n:=0) (mk:=[]) sub (by omega) h hk
        exact ⟨v,h1,h2,by rw [w_node]; exact h3,h4⟩
      | str s a h ha =>
        obtain ⟨va,a0⟩:=mo a (by simp) ha
        have a1:=a0.p
        have a2:=a0.r
        have a3:=a0.len
        have ls:=ck_len h
        rw [wL_cons,wL_nil] at hw
        refine ⟨_,pd_str (by omega) a1 (by omega),rt_str (by omega) a2 (by omega),?_,jf_ne (x:=[115,116,114,117,99,116,117,114,101]) List.mem_cons_self (by simp)⟩
        have:=jf_lw [[115,116,114,117,99,116,117,114,101],nm,[61],va]
        simp only [lw,List.length_cons,List.length_nil] at this
        rw [w_node,wL_cons,wL_nil]
        omega
      | sig s a h ha =>
        obtain ⟨va,a0⟩:=si a (by simp) ha
        have a1:=a0.p
        have a2:=a0.r
        have a3:=a0.len
        have ls:=ck_len h
        rw [wL_cons,wL_nil] at hw
        refine ⟨_,pd_sig (by omega) a1 (by omega),rt_sig (by omega) a2 (by omega),?_,jf_ne (x:=[115,105,103,110,97,116,117,114,101]) List.mem_cons_self (by simp)⟩
        have:=jf_lw [[115,105,103,110,97,116,117,114,101],nm,[61],va]
        simp only [lw,List.length_cons,List.length_nil] at this
        rw [w_node,wL_cons,wL_nil]
        omega
      | fun_ s x a b h hx ha hb =>
        obtain ⟨va,a0⟩:=si a (by simp) ha
        have a1:=a0.p
        have a2:=a0.r
        have a3:=a0.len
        obtain ⟨vb,b0⟩:=mo b (by simp) hb
        have b1:=b0.p
        have b2:=b0.r
        have b3:=b0.len
        have lx:=ck_len hx
        have ls:=ck_len h
        rw [wL_cons,wL_cons,wL_nil] at hw
        refine ⟨_,pd_fun (by omega) (by omega) a1 (by omega) b1 (by omega),rt_fun (by omega) (by omega) a2 (by omega) b2 (by omega),?_,jf_ne (x:=[102,117,110,99,116,111,114]) List.mem_cons_self (by simp)⟩
        have:=jf_lw [[102,117,110,99,116,111,114],nm,[40],mk,[58],va,[41],[61],vb]
        simp only [lw,List.length_cons,List.length_nil] at this
        rw [w_node,wL_cons,wL_cons,wL_nil]
        omega
      | opn s h =>
        have ls:=lg_len h
        refine ⟨_,pd_opn (by omega),rt_opn (by omega),?_,jf_ne (x:=[111,112,101,110]) List.mem_cons_self (by simp)⟩
        have:=jf_lw [[111,112,101,110],nm]
        simp only [lw,List.length_cons,List.length_nil] at this
        rw [w_node,wL_nil]
        omega
      | inc s h =>
        have ls:=lg_len h
        refine ⟨_,pd_inc (by omega),rt_inc (by omega),?_,jf_ne (x:=[105,110,99,108,117,100,101]) List.mem_cons_self (by simp)⟩
        have:=jf_lw [[105,110,99,108,117,100,101],nm]
        simp only [lw,List.length_cons,List.length_nil] at this
        rw [w_node,wL_nil]
        omega
end Go.Proofs.YtjhfgiieicloeaaGreatDoor

/- The cells that the laws of layer 9 look at; the checks; the example. -/
namespace Go.Proofs.YtjhfgiieicloeaaGreatDoor
open Go Go.Am Go.Sx
def few9 (p:List Cell):List Cell:=(p.take 120).map cutC
theorem ev_cells9_loop {p:List Cell}:∀ (m i:Nat) (acc:List Cell),i+m=min p.length 120→acc.length=i→Ev (fun K=>law09_cells_l0 K p (i:Int) acc) (acc++((p.take 120).drop i).map cutC):=by
  intro m
  induction m with
  | zero =>
    intro i acc hi ha
    refine Ev.step (fun k=>by rw [law09_cells_l0]) ?_
    have hd:(p.take 120).drop i=[]:=List.drop_of_length_le (by simp; omega)
    rw [hd]
    refine Ev.d (fun h=>?_) (fun _=>Ev.pure' (by simp))
    exact Ev.dF (by omega) (Ev.pure' (by simp))
  | succ m ihm =>
    intro i acc hi ha
    have hlt:i<p.length:=by omega
    have hlt':i<(p.take 120).length:=by simp; omega
    refine Ev.step (fun k=>by rw [law09_cells_l0]) ?_
    refine Ev.dT (by omega) (Ev.dT (by omega) (Ev.opt (getI_lt hlt) ?_))
    refine Ev.opt (sub_min (m:=130)) (Ev.opt (sub_min (m:=130)) (Ev.opt (sub_min (m:=12)) ?_))
    refine Ev.opt (appL_ok (by simp; omega)) (Ev.opt (appL_ok (by simp; omega)) ?_)
    rw [wrap_nat (by omega),drop_get hlt',List.map_cons]
    have:=ihm (i+1) (acc++[cutC p[i]]) (by omega) (by simp [ha])
    rw [List.append_assoc] at this
    simpa [cutC] using this
theorem ev_cells9 (p:List Cell):Ev (fun K=>law09_cells K p) (few9 p):=by
  have:=ev_cells9_loop (p:=p) (min p.length 120) 0 [] (by omega) rfl
  simpa [law09_cells,few9] using this
theorem few9_b (p:List Cell):∀ c∈few9 p,c.2.2.1.length≤130∧c.2.2.2.1.length≤130∧c.2.2.2.2.length≤12:=by
  intro c h
  simp only [few9,List.mem_map] at h
  obtain ⟨x,_,rfl⟩:=h
  simp [cutC]; omega
theorem fine_open9 (p:List Cell):Fine (openT (few9 p)).1:=by
  refine ⟨Nat.le_trans (openT_w _) (by decide),fun hf=>?_⟩
  rcases openT_cases (few9 p) with ⟨h,_⟩ | ⟨h0,h1,h2,h3,h4,h5,h6,h7,_⟩
  · rw [h,fullT_nil] at hf; cases hf
  · rw [h6]
    exact good_nodes h7 (fun c hc=>by have:=few9_b p c hc; omega) (few9 p).length _ (by omega) (by omega)
theorem kids_few9 (p:List Cell):∀ c∈few9 p,c.2.2.2.2.length≤1048576:=fun c hc=>by have:=few9_b p c hc; omega
theorem chk_zero {c:Int} {t:Tr} (h0:chk c t=0):isT c t=true∧fullT t=true∧sizeT t≤8192∧deepT t≤60:=by
  unfold chk at h0
  by_cases h1:(packT t).2=0
  · rw [if_pos h1] at h0
    by_cases h2:60<deepT t
    · rw [if_pos h2] at h0; cases h0
    · rw [if_neg h2] at h0
      have hz:sizeT t≤8192:=by
        unfold packT at h1
        rw [if_pos (pack_full h1)] at h1
        by_cases hz:8192<sizeT t
        · rw [if_pos hz] at h1; cases h1
        · omega
      cases hi:isT c t with
      | false=>rw [hi] at h0; cases h0
      | true=>exact ⟨rfl,pack_full h1,hz,by omega⟩
  · rw [if_neg h1] at h0; exact absurd h0 h1
theorem ev_Mod {t:Tr} (h:Fine t):Ev (fun K=>shape_Mod K t) (chk 3 t):=Ev.congr (f:=fun _K=>_) (Ev.ret (Ev.congr (f:=fun _K=>_) (ev_chk (f:=shape_isMod) h fun g=>(ev_mod t g).1) (fun _=>rfl))) (fun _=>rfl)
theorem ev_Sig {t:Tr} (h:Fine t):Ev (fun K=>shape_Sig K t) (chk 4 t):=Ev.congr (f:=fun _K=>_) (Ev.ret (Ev.congr (f:=fun _K=>_) (ev_chk (f:=shape_isSig) h fun g=>(ev_sig t g).1) (fun _=>rfl))) (fun _=>rfl)
theorem ev_Spec {t:Tr} (h:Fine t):Ev (fun K=>shape_Spec K t) (chk 5 t):=Ev.congr (f:=fun _K=>_) (Ev.ret (Ev.congr (f:=fun _K=>_) (ev_chk (f:=shape_isSpec) h fun g=>(ev_sig t g).2.1) (fun _=>rfl))) (fun _=>rfl)
theorem ev_Decl {t:Tr} (h:Fine t):Ev (fun K=>shape_Decl K t) (chk 6 t):=Ev.congr (f:=fun _K=>_) (Ev.ret (Ev.congr (f:=fun _K=>_) (ev_chk (f:=shape_isDecl) h fun g=>ev_decl t g) (fun _=>rfl))) (fun _=>rfl)
theorem ev_Prog {t:Tr} (h:Fine t):Ev (fun K=>shape_Prog K t) (chk 7 t):=Ev.congr (f:=fun _K=>_) (Ev.ret (Ev.congr (f:=fun _K=>_) (ev_chk (f:=shape_isProg) h fun g=>ev_prog t g) (fun _=>rfl))) (fun _=>rfl)
theorem works9 (k:Nat):law09_works (k+80)=some true:=by kernel_rfl
theorem ev_works9:Ev (fun K=>law09_works K) true:=⟨80,fun K hK=>by
  have:=works9 (K - 80)
  rwa [show K - 80+80=K by omega] at this⟩
end Go.Proofs.YtjhfgiieicloeaaGreatDoor

