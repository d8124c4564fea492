/- Joined texts: K7, JPrintWrites. -/
import Derived.Test.YtjhfgiieicloeaaGreatDoorGl
import Derived.Test.YtjhfgiieicloeaaGreatDoorGk
import Derived.Test.YtjhfgiieicloeaaGreatDoorGq
import Derived.Test.YtjhfgiieicloeaaGreatDoorGe
import Derived.Test.YtjhfgiieicloeaaGreatDoorTie
import Derived.Test.YtjhfgiieicloeaaGreatDoorCards
import Derived.SevenTiedAt
import Derived.Test.YtjhfgiieicloeaaGreatDoorGh
/- The laws PrintWrites, PrintProgs. -/
namespace Go.Proofs.YtjhfgiieicloeaaGreatDoor
open Go Go.Am Go.Sx
section
variable {t:Tr} (hf:Fine t) (hw:t.w≤8192)
include hf hw
theorem both9 {S:Nat→Option Int} {c:Int} {f:Nat→Tr→Option (List UInt8)} (hS:Ev S (chk c t)) (H:Sm t→isT c t=true→∃ v,Wm f t v) :
    ∃ p,Ev (fun K=>(S K).bind fun v1=>iteS (!decide (v1=0)) (some (([]:List UInt8),v1)) ((f K t).bind fun v2=>some (v2,0))) p∧Ev (fun K=>ref09_Write K t c) p:=by
  by_cases h0:chk c t=0
  · obtain ⟨hi,h1,h2,h3⟩:=chk_zero h0
    obtain ⟨v,hv⟩:=H ⟨hf.2 h1,by omega,h2,h3⟩ hi
    refine ⟨(v,0),Ev.bind hS (Ev.nF h0 (Ev.bind hv.p Ev.pure)),Ev.congr (f:=fun K=>_) ?_ (fun k=>by rw [ref09_Write])⟩
    exact Ev.bind (ev_Check hf c) (Ev.nF h0 (Ev.bind hv.r Ev.pure))
  · refine ⟨([],chk c t),Ev.bind hS (Ev.nT h0 Ev.pure),Ev.congr (f:=fun K=>_) ?_ (fun k=>by rw [ref09_Write])⟩
    exact Ev.bind (ev_Check hf c) (Ev.nT h0 Ev.pure)
theorem b_mod:∃ p,Ev (fun K=>print_Mod K t) p∧Ev (fun K=>ref09_Write K t 3) p:=by
  obtain ⟨⟨v,e⟩,h1,h2⟩:=both9 hf hw (ev_Mod hf) fun s hi=>(wm_all t s).1 hi
  have h:=Ev.congr (g:=fun K=>print_checked K t) h1 (fun _=>rfl)
  exact ⟨(v,e),Ev.congr (f:=fun K=>(print_checked K t).bind fun x=>match x with | (v1,v2)=>some (v1,v2)) (Ev.bind h Ev.pure) (fun _=>rfl),h2⟩
theorem b_sig:∃ p,Ev (fun K=>print_Sig K t) p∧Ev (fun K=>ref09_Write K t 4) p:=by
  obtain ⟨⟨v,e⟩,h1,h2⟩:=both9 hf hw (ev_Sig hf) fun s hi=>(wm_all t s).2.1 hi
  have h:=Ev.congr (g:=fun K=>print_checked_2 K t) h1 (fun _=>rfl)
  exact ⟨(v,e),Ev.congr (f:=fun K=>(print_checked_2 K t).bind fun x=>match x with | (v1,v2)=>some (v1,v2)) (Ev.bind h Ev.pure) (fun _=>rfl),h2⟩
theorem b_spec:∃ p,Ev (fun K=>print_Spec K t) p∧Ev (fun K=>ref09_Write K t 5) p:=by
  obtain ⟨⟨v,e⟩,h1,h2⟩:=both9 hf hw (ev_Spec hf) fun s hi=>(wm_all t s).2.2.1 hi
  have h:=Ev.congr (g:=fun K=>print_checked_3 K t) h1 (fun _=>rfl)
  exact ⟨(v,e),Ev.congr (f:=fun K=>(print_checked_3 K t).bind fun x=>match x with | (v1,v2)=>some (v1,v2)) (Ev.bind h Ev.pure) (fun _=>rfl),h2⟩
theorem b_decl:∃ p,Ev (fun K=>print_Decl K t) p∧Ev (fun K=>ref09_Write K t 6) p:=by
  obtain ⟨⟨v,e⟩,h1,h2⟩:=both9 hf hw (ev_Decl hf) fun s hi=>(wm_all t s).2.2.2 hi
  have h:=Ev.congr (g:=fun K=>print_checked_4 K t) h1 (fun _=>rfl)
  exact ⟨(v,e),Ev.congr (f:=fun K=>(print_checked_4 K t).bind fun x=>match x with | (v1,v2)=>some (v1,v2)) (Ev.bind h Ev.pure) (fun _=>rfl),h2⟩
end
theorem law09_PrintWrites_true (l:List Cell):∃ K,law09_PrintWrites K l=some true:=by
  refine Ev.get (f:=fun K=>law09_PrintWrites K l) ?_
  refine Ev.congr (f:=fun K=>_) ?_ (fun k=>by rw [law09_PrintWrites])
  refine Ev.bind (ev_cells9 l) (Ev.bind (ev_ropen (kids_few9 l)) ?_)
  have hf:=fine_open9 l
  have hw:=openT_w (few9 l)
  generalize (openT (few9 l))=o at *
  obtain ⟨t,e⟩:=o
  simp only at hf hw
  obtain ⟨⟨a1,a2⟩,pa,ra⟩:=b_mod hf hw
  obtain ⟨⟨b1,b2⟩,pb,rb⟩:=b_sig hf hw
  obtain ⟨⟨c1,c2⟩,pc,rc⟩:=b_spec hf hw
  obtain ⟨⟨d1,d2⟩,pd,rd⟩:=b_decl hf hw
  refine Ev.bind pa (Ev.bind pb (Ev.bind pc (Ev.bind pd (Ev.bind ra ?_))))
  show Ev (fun K=>law09_PrintWrites_c0 K t a1 a2 b1 b2 c1 c2 d1 d2 a1 a2) true
  refine Ev.step (fun k=>by rw [law09_PrintWrites_c0]) ?_
  refine Ev.bind rb (Ev.bind rc (Ev.bind rd ?_))
  repeat' first | exact Ev.ret ev_works9 | refine Ev.dT rfl ?_
end Go.Proofs.YtjhfgiieicloeaaGreatDoor

/- The law PrintWrites answers true whatever it is handed, and leaves what it is handed as it was; the listed variables of Go's library stand as the program's text lays them: the given card. -/
namespace Go.Proofs.YtjhfgiieicloeaaGreatDoor
open Go Go.Am Go.Sx Go.ChangeShapes Go.WideShapes Go.ChangeAt Go.RowKit
set_option maxRecDepth 100000 in
theorem law09_PrintWrites_lifted (os:Os) (started:os.Started) (H:Type) (enc:TypeId×Value→H) :
    ReturnsInHanded {} Tryz.checked os 4 .any (fun w args=>(Rows.printWritesSpec.pre enc Tryz.prog Tryz.f4 [] false w args∧laidMetH Tryz.prog laidL w)∧sizedMet enc Tryz.prog Tryz.f4 (OpenSpec.ofChange Rows.printWritesSpec) false w args)
      (Rows.printWritesSpec.post enc Tryz.prog Tryz.f4 false true false false) :=
  law_laid (C:=Tryz.checked) (tb:=4) own started (by kernel_rfl) Tryz.func4
    (ChangeSpec.witness_shaped (enc:=enc) (C:=Tryz.checked) (os:=os) (X:=fun w _=>laidMetH Tryz.prog laidL w) false (laidWorld os) #[.agg #[(.slice none 0 0)]] 8 rfl (door_shaped os _) (by kernel_rfl) (by kernel_rfl) (by kernel_rfl) (door_met os _))
    kids full (by decide) rfl und4 rfl
    (fun ds h=>match ds,h with | [d0],_=>⟨rfl,rfl,rfl⟩)
    tabs_laid (args_cons arg_tree args_nil)
    (fun x hx=>by
      obtain ⟨K,hK⟩:=law09_PrintWrites_true x.1
      exact ((law09_PrintWrites_ok K).ok (fun _=>0) x.1 true hK).mono (by rintro av s ⟨ids',_,rfl,rfl⟩; exact ⟨rfl,rfl⟩))

theorem law09_PrintWrites_row:Rows.PrintWritesSaid :=
  OpenClaim.holds_of_wide 4 Tryz.f4 rfl rfl rfl rfl rfl rfl rfl ⟨rfl,rfl,rfl,rfl,rfl⟩ rfl rfl rfl rfl rfl (by kernel_rfl) Tryz.func4 (by kernel_rfl)
    (of_decide_eq_true (by kernel_rfl)) (by unfold Func.isWrapper; first | (rw [if_pos (by decide +kernel)]; kernel_rfl) | (rw [if_neg (by decide +kernel)]; exact ⟨rfl,rfl⟩))
    (fun os started H enc _=>law09_PrintWrites_lifted os started H enc)

theorem law09_PrintWrites_said:Rows.PrintWritesCardSaid :=
  Claim7.holds_tied_plain_at .later [] [.data,.pinned] true (true, "6d3e77a36a4bbe39b6dc8af748f454e27c58654dc9f00cf5aba36e95f8132534") false
    law09_PrintWrites_row (fun _ h=>by cases h) (by kernel_rfl) (fun _ h=>by cases h) printWrites_row_tie rfl ⟨rfl,rfl⟩ (by kernel_rfl) rfl
    (fun f fn hf hfn=>by
      obtain rfl:f=4:=Option.some.inj ((show Tryz.prog.funcNamed "marquetry/marquetrylaw09.PrintWrites" = some 4 by kernel_rfl).symm.trans hf) |>.symm
      obtain rfl:fn=Tryz.f4:=(Option.some.inj (Tryz.func4.symm.trans hfn)).symm
      exact ⟨by kernel_rfl,fun j t ht=>by
        rw [Tryz.params4] at ht
        have h3:t=24:=by
          rcases j with _ | j
          · have e:t=24:=by simpa using ht.symm
            exact e
          simp at ht
        subst h3
        exact (show Tryz.prog.wantsStandIn 24=false by kernel_rfl)⟩)
    (by kernel_rfl)
end Go.Proofs.YtjhfgiieicloeaaGreatDoor

