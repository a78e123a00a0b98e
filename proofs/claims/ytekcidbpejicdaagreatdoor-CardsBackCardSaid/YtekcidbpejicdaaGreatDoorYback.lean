/-
  CardsBack: for every input the law's function returns true, and the input reads as it did.
  Conditions: none beyond the given statement's own (what the card ties: the three tables of Go's library as the program's text lays them; the proof reads none of them).
-/
import Derived.Test.YtekcidbpejicdaaGreatDoorZaP8
import Derived.Test.YtekcidbpejicdaaGreatDoorZaP15
import Derived.Test.YtekcidbpejicdaaGreatDoorZaP14
import Derived.Test.YtekcidbpejicdaaGreatDoorCards
import Derived.Test.YtekcidbpejicdaaGreatDoorTie
import Derived.SevenTiedAt
namespace Go.Proofs.YtekcidbpejicdaaGreatDoor.cardsBack
set_option linter.unusedVariables false
set_option linter.unusedSimpArgs false
open Go Go.Av Go.ChangeShapes Go.WideShapes Go.ChangeAt Go.RowKit

theorem own:ownKnob Tryz.prog.godebug=none:=by kernel_rfl

theorem walk(a0:Cd)(a1:List Val)(l1:a1.length=8)(v0 v1:Value)(w:World)(h0:VR (eB w) w noμ (aS a0) v0)(h1:VR (eB w) w noμ (.agg (a1.map av)) v1):Calls Tryz.prog 5 #[v0,v1] w fun e w'=>e=.returned (.bool true)∧Below w.heap.size w w':=
  dN (Vs:=[v0,v1]) enters Tryz.func5 rfl w (cardsBack a0 a1 l1) (.cons _ _ _ _ h0 (.cons _ _ _ _ h1 .nil)) (fun _ _ R h=>by cases h;rfl)

set_option maxRecDepth 100000 in
theorem lifted(os:Os)(started:os.Started)(H:Type)(enc:TypeId×Value→H):
    ReturnsInHanded {} Tryz.checked os 5 .any (fun w args=>(Rows.cardsBackSpec.pre enc Tryz.prog Tryz.f5 Rows.cardsBackRow.domain false w args∧laidMetH Tryz.prog Rows.cardsBackRow.laid w)∧sizedMet enc Tryz.prog Tryz.f5 (OpenSpec.ofChange Rows.cardsBackSpec) false w args)
      (Rows.cardsBackSpec.post enc Tryz.prog Tryz.f5 false true false false):=by
  refine returnsInHanded_of_change_and (C:=Tryz.checked) (X:=fun w _=>laidMetH Tryz.prog Rows.cardsBackRow.laid w) (fun _ _ _ hh h=>h.of_heap hh) own started (by kernel_rfl) Tryz.func5
    (ChangeSpec.witness_shaped (enc:=enc) (C:=Tryz.checked) (os:=os) (X:=fun w _=>laidMetH Tryz.prog Rows.cardsBackRow.laid w) false (World.laidAll Tryz.prog os Rows.cardsBackRow.laid) #[.agg #[.string ⟨#[]⟩,.slice none 0 0],.agg #[.slice none 0 0,.slice none 0 0,.slice none 0 0,.slice none 0 0,.slice none 0 0,.slice none 0 0,.slice none 0 0,.slice none 0 0]] 8 (World.laidAll_os _ _ _)
      (World.shaped_of_ZipB (by kernel_rfl) (by kernel_rfl)) (by kernel_rfl) (by kernel_rfl) (by kernel_rfl)
      (by rw[MakeChecks.laidMetH_plain _ _ _ (by kernel_rfl)];exact laidMet_laidAll _ (by kernel_rfl) (by kernel_rfl))) ?_
  intro W base args ds gs before hval0 hW hc _ hL _
  have hval: ∀(j:Nat) t v,Tryz.f5.params[j]? =some t→args[j]? =some v→Value.okWide Tryz.prog W .any base t v:=hval0
  have hW':=hW
  obtain⟨p,q,hA0,hV,rfl,hfz,hnd⟩:=hW
  have hA:DataW.TrodAll enc Tryz.prog W 0 (fun _=>true) true Tryz.f5.params.toList args.toList ds p:=hA0
  rw[Tryz.params5]at hA hval
  obtain⟨v0,vs0,d0,ds0,p0,q0,hargs,rfl,rfl,h0,r0⟩:=trodAll_cons hA
  obtain⟨v1,vs1,d1,ds1,p1,q1,rfl,rfl,rfl,h1,r1⟩:=trodAll_cons r0
  obtain⟨rfl,rfl,rfl⟩:=trodAll_nil r1
  obtain rfl:args= #[v0,v1]:=by cases args;simp_all
  obtain⟨rfl,rfl⟩:=trodVars_none hV
  obtain⟨a0,w0⟩:=kr (hval 0 24 v0 rfl rfl) h0
  obtain⟨a1,l1,w1⟩:=ez (hval 1 27 v1 rfl rfl) h1
  clear hA0 hval0
  simp only[List.append_nil]at hW'
  have hlt0: ∀x∈p0,x.block<W.heap.size:=fun x hx=>hW'.lt x (by simp[hx])
  have hlt1: ∀x∈p1,x.block<W.heap.size:=fun x hx=>hW'.lt x (by simp[hx])
  refine(walk a0 a1 l1 v0 v1 W w0 w1).mono fun e W' ⟨he,hg⟩=> ?_
  subst he
  exact⟨_,rfl,iE (pa:=p0++p1) (pv:=[]) hW' (fun _ _ _=>(trodAll_cons_mk (shut_bool Tryz.underlying4 _) trodAll_mk0))
    (fun sp hsp=>by
      have:=(trodAll_cons_mk (stays (by kernel_rfl) (of_decide_eq_true (by kernel_rfl)) h0 hg hlt0 sp (fun x hx=>hsp x (by simp[hx]))) (trodAll_cons_mk (stays (by kernel_rfl) (of_decide_eq_true (by kernel_rfl)) h1 hg hlt1 sp (fun x hx=>hsp x (by simp[hx]))) (trodAll_mk0 (enc:=enc) (P:=Tryz.prog) (w:=W') (base:=0) (spare:=sp) (held:=true))))
      simp only[List.append_nil]at this
      exact this) (fun _ _=>rfl) (by simp)
    hg (ok_one (by kernel_rfl) rfl (okWide_bool_mk Tryz.underlying4 _))⟩

theorem over:Rows.cardsBackRow.holds Tryz.pinned (OpenSpec.ofChange Rows.cardsBackSpec):=
  OpenClaim.holds_of_wide 5 Tryz.f5 rfl rfl rfl rfl rfl rfl rfl ⟨rfl,rfl,rfl,rfl,rfl⟩ rfl rfl rfl rfl rfl (by kernel_rfl) Tryz.func5 (by kernel_rfl)
    (of_decide_eq_true (by kernel_rfl)) (by unfold Func.isWrapper;first|(rw[if_pos (by decide+kernel)];kernel_rfl)|(rw[if_neg (by decide+kernel)];exact⟨rfl,rfl⟩))
    (fun os started H enc _=>lifted os started H enc)

theorem proved:Rows.CardsBackCardSaid:=
  Claim7.holds_tied_plain_at .later [] [.data,.pinned,.pinned] true (true,"031d7648a7e22b905e6fcd89e29753b659f22c72b057625e2824136fd930c6d0") true
    over (fun _ h=>by cases h) (by kernel_rfl) (fun _ h=>by cases h) cardsBack_row_tie rfl ⟨rfl,rfl⟩ (by kernel_rfl) rfl
    (fun f fn hf hfn=>by
      obtain rfl:f=5:=Option.some.inj ((show Tryz.prog.funcNamed "cardcase/cardcaselaw17.CardsBack" =some 5 by kernel_rfl).symm.trans hf)|>.symm
      obtain rfl:fn=Tryz.f5:=(Option.some.inj (Tryz.func5.symm.trans hfn)).symm
      exact⟨by kernel_rfl,fun j t ht=>by
        rw[Tryz.params5]at ht
        have hm:t∈[24,27]:=by simpa using Array.mem_of_getElem? ht
        have hall:([24,27].all fun u=> !Tryz.prog.wantsStandIn u)=true:=by kernel_rfl
        exact(show Tryz.prog.wantsStandIn t=false by simpa using List.all_eq_true.1 hall t hm)⟩)
    (by kernel_rfl)
end Go.Proofs.YtekcidbpejicdaaGreatDoor.cardsBack
#print axioms Go.Proofs.YtekcidbpejicdaaGreatDoor.cardsBack.proved
