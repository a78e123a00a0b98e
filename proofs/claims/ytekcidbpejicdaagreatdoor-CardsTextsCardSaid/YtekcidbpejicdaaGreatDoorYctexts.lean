/- CardsTexts: for every input the law's function returns true, and the input reads as it did. Conditions: none beyond the given statement's own. -/
import Derived.Test.YtekcidbpejicdaaGreatDoorZbP15
import Derived.Test.YtekcidbpejicdaaGreatDoorCards
import Derived.Test.YtekcidbpejicdaaGreatDoorTie
import Derived.SevenTiedAt
namespace Go.Proofs.YtekcidbpejicdaaGreatDoor.cardsTexts
set_option linter.unusedVariables false
set_option linter.unusedSimpArgs false
open Go Go.Av Go.ChangeShapes Go.WideShapes Go.ChangeAt Go.RowKit
theorem own:ownKnob Tryz.prog.godebug=none:=by kernel_rfl
theorem walk(a0:Bytes)(v0:Value)(w:World)(h0:VR (vq w) w noμ (.str a0) v0):Calls Tryz.prog 8 #[v0] w fun e w'=>e=.returned (.bool true)∧Below w.heap.size w w':=
 pF (Vs:=[v0]) enters Tryz.func8 rfl w (cardsTexts a0) (.cons _ _ _ _ h0 .nil) (fun _ _ R h=>by cases h;rfl)
set_option maxRecDepth 100000 in
theorem lifted(os:Os)(started:os.Started)(H:Type)(enc:TypeId×Value→H):
  ReturnsInHanded {} Tryz.checked os 8 .any (fun w args=>(Rows.cardsTextsSpec.pre enc Tryz.prog Tryz.f8 Rows.cardsTextsRow.domain false w args∧laidMetH Tryz.prog Rows.cardsTextsRow.laid w)∧sizedMet enc Tryz.prog Tryz.f8 (OpenSpec.ofChange Rows.cardsTextsSpec) false w args)
   (Rows.cardsTextsSpec.post enc Tryz.prog Tryz.f8 false true false false):=by
 refine returnsInHanded_of_change_and (C:=Tryz.checked) (X:=fun w _=>laidMetH Tryz.prog Rows.cardsTextsRow.laid w) (fun _ _ _ hh h=>h.of_heap hh) own started (by kernel_rfl) Tryz.func8
  (ChangeSpec.witness_shaped (enc:=enc) (C:=Tryz.checked) (os:=os) (X:=fun w _=>laidMetH Tryz.prog Rows.cardsTextsRow.laid w) false (World.laidAll Tryz.prog os Rows.cardsTextsRow.laid) #[.string ⟨#[]⟩] 8 (World.laidAll_os _ _ _)
   (World.shaped_of_ZipB (by kernel_rfl) (by kernel_rfl)) (by kernel_rfl) (by kernel_rfl) (by kernel_rfl)
   (by rw[MakeChecks.laidMetH_plain _ _ _ (by kernel_rfl)];exact laidMet_laidAll _ (by kernel_rfl) (by kernel_rfl))) ?_
 intro W base args ds gs before hval0 hW hc _ hL _
 have hval: ∀(j:Nat) t v,Tryz.f8.params[j]? =some t→args[j]? =some v→Value.okWide Tryz.prog W .any base t v:=hval0
 have hW':=hW
 obtain⟨p,q,hA0,hV,rfl,hfz,hnd⟩:=hW
 have hA:DataW.TrodAll enc Tryz.prog W 0 (fun _=>true) true Tryz.f8.params.toList args.toList ds p:=hA0
 rw[Tryz.params8]at hA hval
 obtain⟨v0,vs0,d0,ds0,p0,q0,hargs,rfl,rfl,h0,r0⟩:=trodAll_cons hA
 obtain⟨rfl,rfl,rfl⟩:=trodAll_nil r0
 obtain rfl:args= #[v0]:=by cases args;simp_all
 obtain⟨rfl,rfl⟩:=trodVars_none hV
 obtain⟨a0,w0⟩:=zr (hval 0 9 v0 rfl rfl) h0
 clear hA0 hval0
 simp only[List.append_nil]at hW'
 have hlt0: ∀x∈p0,x.block<W.heap.size:=fun x hx=>hW'.lt x (by simp[hx])
 refine(walk a0 v0 W w0).mono fun e W' ⟨he,hg⟩=> ?_
 subst he
 exact⟨_,rfl,zt (pa:=p0) (pv:=[]) hW' (fun _ _ _=>(trodAll_cons_mk (shut_bool Tryz.underlying4 _) trodAll_mk0))
  (fun sp hsp=>by
   have:=(trodAll_cons_mk (stays (by kernel_rfl) (of_decide_eq_true (by kernel_rfl)) h0 hg hlt0 sp (fun x hx=>hsp x (by simp[hx]))) (trodAll_mk0 (enc:=enc) (P:=Tryz.prog) (w:=W') (base:=0) (spare:=sp) (held:=true)))
   simp only[List.append_nil]at this
   exact this) (fun _ _=>rfl) (by simp)
  hg (ok_one (by kernel_rfl) rfl (okWide_bool_mk Tryz.underlying4 _))⟩
theorem over:Rows.cardsTextsRow.holds Tryz.pinned (OpenSpec.ofChange Rows.cardsTextsSpec):=
 OpenClaim.holds_of_wide 8 Tryz.f8 rfl rfl rfl rfl rfl rfl rfl ⟨rfl,rfl,rfl,rfl,rfl⟩ rfl rfl rfl rfl rfl (by kernel_rfl) Tryz.func8 (by kernel_rfl)
  (of_decide_eq_true (by kernel_rfl)) (by unfold Func.isWrapper;first|(rw[if_pos (by decide+kernel)];kernel_rfl)|(rw[if_neg (by decide+kernel)];exact⟨rfl,rfl⟩))
  (fun os started H enc _=>lifted os started H enc)
theorem proved:Rows.CardsTextsCardSaid:=
 Claim7.holds_tied_plain_at .later [] [.data,.pinned,.pinned] true (true,"031d7648a7e22b905e6fcd89e29753b659f22c72b057625e2824136fd930c6d0") true
  over (fun _ h=>by cases h) (by kernel_rfl) (fun _ h=>by cases h) cardsTexts_row_tie rfl ⟨rfl,rfl⟩ (by kernel_rfl) rfl
  (fun f fn hf hfn=>by
   obtain rfl:f=8:=Option.some.inj ((show Tryz.prog.funcNamed "cardcase/cardcaselaw17.CardsTexts" =some 8 by kernel_rfl).symm.trans hf)|>.symm
   obtain rfl:fn=Tryz.f8:=(Option.some.inj (Tryz.func8.symm.trans hfn)).symm
   exact⟨by kernel_rfl,fun j t ht=>by
    rw[Tryz.params8]at ht
    have hm:t∈[9]:=by simpa using Array.mem_of_getElem? ht
    have hall:([9].all fun u=> !Tryz.prog.wantsStandIn u)=true:=by kernel_rfl
    exact(show Tryz.prog.wantsStandIn t=false by simpa using List.all_eq_true.1 hall t hm)⟩)
  (by kernel_rfl)
end Go.Proofs.YtekcidbpejicdaaGreatDoor.cardsTexts
#print axioms Go.Proofs.YtekcidbpejicdaaGreatDoor.cardsTexts.proved
