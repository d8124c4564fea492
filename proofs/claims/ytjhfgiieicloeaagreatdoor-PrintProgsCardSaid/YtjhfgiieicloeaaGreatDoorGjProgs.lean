/- Joined texts: K8, JPrintProgs. -/
import Derived.Test.YtjhfgiieicloeaaGreatDoorGl
import Derived.Test.YtjhfgiieicloeaaGreatDoorGk
import Derived.Test.YtjhfgiieicloeaaGreatDoorGe
import Derived.Test.YtjhfgiieicloeaaGreatDoorTie
import Derived.Test.YtjhfgiieicloeaaGreatDoorCards
import Derived.SevenTiedAt
import Derived.Test.YtjhfgiieicloeaaGreatDoorGh
/- The law PrintProgs. -/
namespace Go.Proofs.YtjhfgiieicloeaaGreatDoor
open Go Go.Am Go.Sx
theorem ev_rprog {k n:Int} {nm mk:List UInt8} {L:List TX} (hL:∀ a∈L,Ev (fun K=>ref09_Text K a.1) a.2) (hn:L.length≤1048576) (hb:(prX L).length≤1099511627776):Ev (fun K=>ref09_Prog_l0 K (.node k n nm mk (L.map Prod.fst)) [] 0) (if 16384<(prX L).length then ([],3) else (prX L,0)):=by
  have loop:∀ (m i:Nat),L.length=i+m→Ev (fun K=>ref09_Prog_l0 K (.node k n nm mk (L.map Prod.fst)) (prX (L.take i)) (i:Int)) (if 16384<(prX L).length then ([],3) else (prX L,0)):=by
    intro m
    induction m with
    | zero =>
      intro i hi
      rw [List.take_of_length_le (by omega)]
      refine Ev.step (fun k=>by rw [ref09_Prog_l0]) ?_
      refine Ev.dF (by simp; omega) ?_
      refine Ev.d (fun h=>Ev.pure' (by rw [if_pos (by omega)])) (fun h=>Ev.pure' (by rw [if_neg (by omega)]))
    | succ m ih =>
      intro i hi
      have hlt:i<L.length:=by omega
      have hr:i<(L.map Prod.fst).length:=by simp; omega
      have hg:getI (L.map Prod.fst) (i:Int)=some L[i].1:=by rw [getI_lt hr,List.getElem_map]
      have h1:=prX_le L (i+1)
      have e:=prX_take L hlt
      have hl:=congrArg List.length e
      rw [List.length_append,List.length_append] at hl
      simp only [List.length_cons,List.length_nil] at hl
      refine Ev.step (fun k=>by rw [ref09_Prog_l0]) ?_
      refine Ev.dT (by simp; omega) (Ev.opt hg (Ev.bind (hL _ (List.getElem_mem hlt)) ?_))
      refine Ev.opt (catS_ok (by omega)) (Ev.opt (catS_ok (by simp; omega)) ?_)
      rw [wrap_nat (by omega),List.append_assoc,← e]
      exact ih (i+1) (by omega)
  exact loop L.length 0 (by omega)
theorem law09_PrintProgs_true (l:List Cell):∃ K,law09_PrintProgs K l=some true:=by
  refine Ev.get (f:=fun K=>law09_PrintProgs K l) ?_
  refine Ev.congr (f:=fun K=>_) ?_ (fun k=>by rw [law09_PrintProgs])
  refine Ev.bind (ev_cells9 l) (Ev.bind (ev_ropen (kids_few9 l)) ?_)
  have hf:=fine_open9 l
  have hw:=openT_w (few9 l)
  generalize (openT (few9 l))=o at *
  obtain ⟨t,e⟩:=o
  simp only at hf hw
  have w1:∃ p,Ev (fun K=>print_Prog K t) p∧Ev (fun K=>ref09_Prog K t) p:=by
    by_cases h0:chk 7 t=0
    · obtain ⟨hi,h1,h2,h3⟩:=chk_zero h0
      have hs:Sm t:=⟨hf.2 h1,by omega,h2,h3⟩
      obtain ⟨ks,rfl,hk⟩:=prog_of hi
      have cP:=ev_Prog hf
      have cR:=ev_Check hf 7
      obtain ⟨L,rfl,hL⟩:=list_of (f:=print_decl) ks (fun y hy=>(wm_all y (hs.kid hy)).2.2.2 (hk y hy))
      have hl:=list_lw L hL
      rw [← prX_lw] at hl
      have hn:=wL_len (L.map Prod.fst)
      rw [List.length_map] at hn
      rw [w_node] at hw
      refine ⟨if 16384<(prX L).length then ([],3) else (prX L,0),?_,?_⟩
      · refine Ev.congr (f:=fun K=>_) ?_ (fun _=>rfl)
        refine Ev.bind cP (Ev.iteT h0 ?_)
        refine Ev.bind (ev_pprog (fun a ha=>(hL a ha).p) (by omega) (by omega)) ?_
        by_cases hb:16384<(prX L).length
        · exact Ev.eq (Ev.iteT hb Ev.pure) (if_pos hb).symm
        · exact Ev.eq (Ev.iteF hb Ev.pure) (if_neg hb).symm
      · refine Ev.congr (f:=fun K=>_) ?_ (fun k=>by rw [ref09_Prog])
        refine Ev.bind cR (Ev.nF h0 ?_)
        exact ev_rprog (fun a ha=>(hL a ha).r) (by omega) (by omega)
    · refine ⟨([],chk 7 t),?_,?_⟩
      · refine Ev.congr (f:=fun K=>_) ?_ (fun _=>rfl)
        exact Ev.bind (ev_Prog hf) (Ev.iteF h0 Ev.pure)
      · refine Ev.congr (f:=fun K=>_) ?_ (fun k=>by rw [ref09_Prog])
        exact Ev.bind (ev_Check hf 7) (Ev.nT h0 Ev.pure)
  obtain ⟨⟨v,c⟩,h1,h2⟩:=w1
  exact Ev.bind h1 (Ev.bind h2 (Ev.dT rfl (Ev.dT rfl (Ev.ret ev_works9))))
end Go.Proofs.YtjhfgiieicloeaaGreatDoor

/- The law PrintProgs answers true whatever it is handed, and leaves what it is handed as it was; the listed variables of Go's library stand as the program's text lays them: the given card. -/
namespace Go.Proofs.YtjhfgiieicloeaaGreatDoor
open Go Go.Am Go.Sx Go.ChangeShapes Go.WideShapes Go.ChangeAt Go.RowKit
set_option maxRecDepth 100000 in
theorem law09_PrintProgs_lifted (os:Os) (started:os.Started) (H:Type) (enc:TypeId×Value→H) :
    ReturnsInHanded {} Tryz.checked os 3 .any (fun w args=>(Rows.printProgsSpec.pre enc Tryz.prog Tryz.f3 [] false w args∧laidMetH Tryz.prog laidL w)∧sizedMet enc Tryz.prog Tryz.f3 (OpenSpec.ofChange Rows.printProgsSpec) false w args)
      (Rows.printProgsSpec.post enc Tryz.prog Tryz.f3 false true false false) :=
  law_laid (C:=Tryz.checked) (tb:=4) own started (by kernel_rfl) Tryz.func3
    (ChangeSpec.witness_shaped (enc:=enc) (C:=Tryz.checked) (os:=os) (X:=fun w _=>laidMetH Tryz.prog laidL w) false (laidWorld os) #[.agg #[(.slice none 0 0)]] 8 rfl (door_shaped os _) (by kernel_rfl) (by kernel_rfl) (by kernel_rfl) (door_met os _))
    kids full (by decide) rfl und4 rfl
    (fun ds h=>match ds,h with | [d0],_=>⟨rfl,rfl,rfl⟩)
    tabs_laid (args_cons arg_tree args_nil)
    (fun x hx=>by
      obtain ⟨K,hK⟩:=law09_PrintProgs_true x.1
      exact ((law09_PrintProgs_ok K).ok (fun _=>0) x.1 true hK).mono (by rintro av s ⟨ids',_,rfl,rfl⟩; exact ⟨rfl,rfl⟩))

theorem law09_PrintProgs_row:Rows.PrintProgsSaid :=
  OpenClaim.holds_of_wide 3 Tryz.f3 rfl rfl rfl rfl rfl rfl rfl ⟨rfl,rfl,rfl,rfl,rfl⟩ rfl rfl rfl rfl rfl (by kernel_rfl) Tryz.func3 (by kernel_rfl)
    (of_decide_eq_true (by kernel_rfl)) (by unfold Func.isWrapper; first | (rw [if_pos (by decide +kernel)]; kernel_rfl) | (rw [if_neg (by decide +kernel)]; exact ⟨rfl,rfl⟩))
    (fun os started H enc _=>law09_PrintProgs_lifted os started H enc)

theorem law09_PrintProgs_said:Rows.PrintProgsCardSaid :=
  Claim7.holds_tied_plain_at .later [] [.data,.pinned] true (true, "6d3e77a36a4bbe39b6dc8af748f454e27c58654dc9f00cf5aba36e95f8132534") false
    law09_PrintProgs_row (fun _ h=>by cases h) (by kernel_rfl) (fun _ h=>by cases h) printProgs_row_tie rfl ⟨rfl,rfl⟩ (by kernel_rfl) rfl
    (fun f fn hf hfn=>by
      obtain rfl:f=3:=Option.some.inj ((show Tryz.prog.funcNamed "marquetry/marquetrylaw09.PrintProgs" = some 3 by kernel_rfl).symm.trans hf) |>.symm
      obtain rfl:fn=Tryz.f3:=(Option.some.inj (Tryz.func3.symm.trans hfn)).symm
      exact ⟨by kernel_rfl,fun j t ht=>by
        rw [Tryz.params3] at ht
        have h3:t=24:=by
          rcases j with _ | j
          · have e:t=24:=by simpa using ht.symm
            exact e
          simp at ht
        subst h3
        exact (show Tryz.prog.wantsStandIn 24=false by kernel_rfl)⟩)
    (by kernel_rfl)
end Go.Proofs.YtjhfgiieicloeaaGreatDoor

