/- Joined texts: P6, JPrintMods. -/
import Derived.Test.YtjhfgiieicloeaaGreatDoorGr
import Derived.Test.YtjhfgiieicloeaaGreatDoorGn
import Derived.Test.YtjhfgiieicloeaaGreatDoorGq
import Derived.Test.YtjhfgiieicloeaaGreatDoorGe
import Derived.Test.YtjhfgiieicloeaaGreatDoorTie
import Derived.Test.YtjhfgiieicloeaaGreatDoorCards
import Derived.SevenTiedAt
import Derived.Test.YtjhfgiieicloeaaGreatDoorGh
/- The law PrintMods. -/
namespace Go.Proofs.YtjhfgiieicloeaaGreatDoor
open Go Go.Am Go.Sx
theorem aZs {s:List UInt8} (h:16384<s.length):Ev (fun K=>rY K s) ([],0,3):=by
 have c:Ev (fun K=>aAL K s) (0,3):=Ev.congr (f:=fun K=>_) (Ev.dT (p:=16384<((s.length:Nat):Int)) (by omega) Ev.pure) (fun _=>rfl)
 exact Ev.congr (f:=fun K=>_) (Ev.bind c (Ev.nT (by decide) Ev.pure)) (fun _=>rfl)
theorem bGx {w:List Wd} (hne:w≠[]) (h:∀ x∈w,Tk x) (hl:(jn w).length≤16384):∃ toks:List aI,toks.length=w.length∧toks.length≤20000∧Nk toks∧At toks 0 (w++[])∧Ev (fun K=>rY K (jn w)) (toks,0,0):=by
 obtain ⟨toks,q1,q0,q2⟩:=bIg hne h hl
 have hlen:toks.length=w.length:=by rw [← q1,List.length_map]
 have wl:∀ w:List Wd,(∀ x∈w,Tk x)→w.length≤(jt w).length:=by
  intro w
  induction w with
  | nil=>simp
  | cons x r ih =>
   intro h
   have:=ih fun y hy=>h y (List.mem_cons_of_mem _ hy)
   rw [qX]
   simp; omega
 have h1:=wl w h
 rw [rO hne,List.length_cons] at h1
 exact ⟨toks,hlen,by omega,q0,by unfold At; rw [List.drop_zero,q1,List.append_nil],q2⟩
theorem bIB {t:Tr} (hf:aOO t) (h0:chk 3 t=0) (hw:t.w≤8192):∃ s,Ev (fun K=>aHT K t) (s,0)∧(16384<s.length∨∃ toks:List aI,Ev (fun K=>rY K s) (toks,0,0)∧Ev (fun K=>aHD K toks 0) (t,((toks.length:Nat):Int),0)):=by
 obtain ⟨hi,h1,h2,h3⟩:=aYO h0
 have hs:Sm t:=⟨hf.2 h1,by omega,h2,h3⟩
 have cP:=bDp hf
 rw [h0] at cP
 obtain ⟨w,q,m⟩:=(bEC t hs).1 hi
 have p:Ev (fun K=>rH K t) (jn w,0):=Ev.congr (f:=fun K=>_) (Ev.bind cP (Ev.nF rfl (Ev.bind q.pr Ev.pure))) (fun _=>rfl)
 refine ⟨jn w,Ev.congr (f:=fun K=>(rH K t).bind fun x=>match x with | (v1,v2)=>some (v1,v2)) (Ev.bind p Ev.pure) (fun _=>rfl),?_⟩
 by_cases hb:16384<(jn w).length
 ·exact .inl hb
 ·obtain ⟨toks,l1,l2,l3,l4,l5⟩:=bGx q.ne q.tk (by omega)
  have r:=bGc (l:=toks) l2 (i:=0) (n:=8 * toks.length+2) (by omega) (by omega)
  rw [m.fin l3 l4 bAV.g rfl rfl (by omega)] at r
  refine .inr ⟨toks,l5,Ev.eq r ?_⟩
  unfold aXS
  rw [if_pos rfl,l1,Nat.zero_add]
theorem bIV {t:Tr} (hf:aOO t) (h0:chk 4 t=0) (hw:t.w≤8192):∃ s,Ev (fun K=>aH5 K t) (s,0)∧(16384<s.length∨∃ toks:List aI,Ev (fun K=>rY K s) (toks,0,0)∧Ev (fun K=>aHY K toks 0) (t,((toks.length:Nat):Int),0)):=by
 obtain ⟨hi,h1,h2,h3⟩:=aYO h0
 have hs:Sm t:=⟨hf.2 h1,by omega,h2,h3⟩
 have cP:=bCE hf
 rw [h0] at cP
 obtain ⟨w,q,m⟩:=(bEC t hs).2.1 hi
 have p:Ev (fun K=>nL K t) (jn w,0):=Ev.congr (f:=fun K=>_) (Ev.bind cP (Ev.nF rfl (Ev.bind q.pr Ev.pure))) (fun _=>rfl)
 refine ⟨jn w,Ev.congr (f:=fun K=>(nL K t).bind fun x=>match x with | (v1,v2)=>some (v1,v2)) (Ev.bind p Ev.pure) (fun _=>rfl),?_⟩
 by_cases hb:16384<(jn w).length
 ·exact .inl hb
 ·obtain ⟨toks,l1,l2,l3,l4,l5⟩:=bGx q.ne q.tk (by omega)
  have r:=bGa (l:=toks) l2 (i:=0) (n:=8 * toks.length+2) (by omega) (by omega)
  rw [m.fin l3 l4 bAV.g.m bAV.g.a bAV.g.w (by omega)] at r
  refine .inr ⟨toks,l5,Ev.eq r ?_⟩
  unfold aXS
  rw [if_pos rfl,l1,Nat.zero_add]
theorem bJs {t:Tr} (hf:aOO t) (h0:chk 3 t≠0):Ev (fun K=>aHT K t) ([],chk 3 t):=by
 have p:Ev (fun K=>rH K t) ([],chk 3 t):=Ev.congr (f:=fun K=>_) (Ev.bind (bDp hf) (Ev.nT h0 Ev.pure)) (fun _=>rfl)
 exact Ev.congr (f:=fun K=>(rH K t).bind fun x=>match x with | (v1,v2)=>some (v1,v2)) (Ev.bind p Ev.pure) (fun _=>rfl)
theorem bID {t:Tr} (hf:aOO t) (h0:chk 4 t≠0):Ev (fun K=>aH5 K t) ([],chk 4 t):=by
 have p:Ev (fun K=>nL K t) ([],chk 4 t):=Ev.congr (f:=fun K=>_) (Ev.bind (bCE hf) (Ev.nT h0 Ev.pure)) (fun _=>rfl)
 exact Ev.congr (f:=fun K=>(nL K t).bind fun x=>match x with | (v1,v2)=>some (v1,v2)) (Ev.bind p Ev.pure) (fun _=>rfl)
theorem bBq {t:Tr} (hf:aOO t) (hw:t.w≤8192):Ev (fun K=>jY K t) true:=by
 refine Ev.step (fun k=>by rw [jY]) ?_
 by_cases h0:chk 4 t=0
 ·obtain ⟨s,p,r⟩:=bIV hf h0 hw
  refine Ev.bind p (Ev.dT rfl ?_)
  rcases r with r | ⟨toks,r1,r2⟩
  ·refine Ev.bind (aZs r) (Ev.bind (bGa (l:=[]) (by simp) (i:=0) (n:=2) (by simp) (by simp)) ?_)
   exact Ev.dT rfl (Ev.ret aHR)
  ·refine Ev.bind r1 (Ev.bind r2 (Ev.dF (by decide) (Ev.nF rfl (Ev.nF rfl (Ev.nF rfl ?_)))))
   exact Ev.bind (aX8 t (by omega)) (Ev.isF rfl (Ev.ret aHR))
 ·exact Ev.bind (bID hf h0) (Ev.dF h0 (Ev.ret aHR))
theorem aKX (l:List Cell):∃ K,uM K l=some true:=by
 refine Ev.get (f:=fun K=>uM K l) ?_
 refine Ev.congr (f:=fun K=>_) ?_ (fun k=>by rw [uM])
 refine Ev.bind (bBM l) (Ev.bind (bEZ (bBU l)) ?_)
 have hf:=aZ3 l
 have hw:=bBp (aU0 l)
 generalize (xT (aU0 l))=o at *
 obtain ⟨t,e⟩:=o
 simp only at hf hw
 refine Ev.n (fun _=>Ev.ret aHR) (fun _=>?_)
 by_cases h0:chk 3 t=0
 ·obtain ⟨s,p,r⟩:=bIB hf h0 hw
  refine Ev.bind p (Ev.dT rfl ?_)
  rcases r with r | ⟨toks,r1,r2⟩
  ·refine Ev.bind (aZs r) (Ev.bind (bGc (l:=[]) (by simp) (i:=0) (n:=2) (by simp) (by simp)) ?_)
   exact Ev.dT rfl (Ev.ret aHR)
  ·refine Ev.bind r1 (Ev.bind r2 (Ev.dF (by decide) ?_))
   refine Ev.step (fun k=>by rw [pD]) ?_
   refine Ev.nF rfl (Ev.nF rfl (Ev.nF rfl ?_))
   exact Ev.bind (aX8 t (by omega)) (Ev.isF rfl (bBq hf hw))
 ·exact Ev.bind (bJs hf h0) (Ev.dF h0 (bBq hf hw))
end Go.Proofs.YtjhfgiieicloeaaGreatDoor

/- The law PrintMods answers true whatever it is handed, and leaves what it is handed as it was; the listed variables of Go's library stand as the program's text lays them: the given card. -/
namespace Go.Proofs.YtjhfgiieicloeaaGreatDoor
open Go Go.Am Go.Sx Go.ChangeShapes Go.WideShapes Go.ChangeAt Go.RowKit
set_option maxRecDepth 100000 in
theorem aIj (os:Os) (started:os.Started) (H:Type) (enc:TypeId×Value→H) :
  ReturnsInHanded {} Tryz.checked os 7 .any (fun w args=>(Rows.printModsSpec.pre enc Tryz.prog Tryz.f7 [] false w args∧laidMetH Tryz.prog bA8 w)∧sizedMet enc Tryz.prog Tryz.f7 (OpenSpec.ofChange Rows.printModsSpec) false w args)
   (Rows.printModsSpec.post enc Tryz.prog Tryz.f7 false true false false) :=
 bEL (C:=Tryz.checked) (tb:=4) own started (by kernel_rfl) Tryz.func7
  (ChangeSpec.witness_shaped (enc:=enc) (C:=Tryz.checked) (os:=os) (X:=fun w _=>laidMetH Tryz.prog bA8 w) false (laidWorld os) #[.agg #[(.slice none 0 0)]] 8 rfl (aZl os _) (by kernel_rfl) (by kernel_rfl) (by kernel_rfl) (door_met os _))
  kids full (by decide) rfl bJK rfl
  (fun ds h=>match ds,h with | [d0],_=>⟨rfl,rfl,rfl⟩)
  bBI (bBG bDD bCO)
  (fun x hx=>by
   obtain ⟨K,hK⟩:=aKX x.1
   exact ((aNY K).ok (fun _=>0) x.1 true hK).mono (by rintro av s ⟨ids',_,rfl,rfl⟩; exact ⟨rfl,rfl⟩))

theorem aMz:Rows.PrintModsSaid :=
 OpenClaim.holds_of_wide 7 Tryz.f7 rfl rfl rfl rfl rfl rfl rfl ⟨rfl,rfl,rfl,rfl,rfl⟩ rfl rfl rfl rfl rfl (by kernel_rfl) Tryz.func7 (by kernel_rfl)
  (of_decide_eq_true (by kernel_rfl)) (by unfold Func.isWrapper; first | (rw [if_pos (by decide +kernel)]; kernel_rfl) | (rw [if_neg (by decide +kernel)]; exact ⟨rfl,rfl⟩))
  (fun os started H enc _=>aIj os started H enc)

theorem law09_PrintMods_said:Rows.PrintModsCardSaid :=
 Claim7.holds_tied_plain_at .later [] [.data,.pinned] true (true, "6d3e77a36a4bbe39b6dc8af748f454e27c58654dc9f00cf5aba36e95f8132534") false
  aMz (fun _ h=>by cases h) (by kernel_rfl) (fun _ h=>by cases h) printMods_row_tie rfl ⟨rfl,rfl⟩ (by kernel_rfl) rfl
  (fun f fn hf hfn=>by
   obtain rfl:f=7:=Option.some.inj ((show Tryz.prog.funcNamed "marquetry/marquetrylaw09.PrintMods" = some 7 by kernel_rfl).symm.trans hf) |>.symm
   obtain rfl:fn=Tryz.f7:=(Option.some.inj (Tryz.func7.symm.trans hfn)).symm
   exact ⟨by kernel_rfl,fun j t ht=>by
    rw [Tryz.params7] at ht
    have h3:t=24:=by
     rcases j with _ | j
     ·have e:t=24:=by simpa using ht.symm
      exact e
     simp at ht
    subst h3
    exact (show Tryz.prog.wantsStandIn 24=false by kernel_rfl)⟩)
  (by kernel_rfl)
end Go.Proofs.YtjhfgiieicloeaaGreatDoor

