/- Contracts of functions that the statements of this seat reach: under the conditions named at each theorem. -/
import Derived.Test.YtekcidbpejicdaaGreatDoorZaP8
import Derived.Test.YtekcidbpejicdaaGreatDoorZaP13
import Derived.Test.YtekcidbpejicdaaGreatDoorZaP12
import Derived.Test.YtekcidbpejicdaaGreatDoorZaP7
import Derived.Test.YtekcidbpejicdaaGreatDoorZaP10
import Derived.Test.YtekcidbpejicdaaGreatDoorZaP9
import Derived.WalkKit
import Derived.ProofKit
import Derived.OpenShut
import Derived.Carry
import Derived.ChangeMaps5
import Derived.LaidMore
import Derived.Lay
import Derived.Stop.Joined
import Derived.Test.YtekcidbpejicdaaGreatDoorRows
namespace Go.Proofs.YtekcidbpejicdaaGreatDoor
set_option linter.unusedVariables false
set_option linter.unusedSimpArgs false
open Go Go.Av Go.RowKit
theorem aa.FN{P:Program}{f:FuncId}{args:List AV}{r r':AV}(h:aa P f args (.ret r))(hs:Sb r r'):aa P f args (.ret r'):=by
 intro F w Vs hlt hv;refine(h F w Vs hlt hv).mono ?_;rintro e w' ⟨h1,F',h2,h3,h4,ho⟩;refine⟨h1,F',h2,h3,h4,?_⟩;cases ho with
 |ret _ V hV=>exact .ret r' V (hs _ _ _ hV)
def ng(c:Cd)(x:List Val):List (Ln×Bool):=ei x c.ls++dK (bf x c.ls) x aP++gI x (bX x c.ls) 2
def dL(c:Cd)(x:List Val):Cd:=⟨c.ver,false,(ng c x).map (·.1)⟩
theorem Co(c:Cd)(x:List Val):∀q∈ng c x,q.2=true→q.1.ps=[]:=by
 intro q hq h;unfold ng at hq;rcases List.mem_append.1 hq with hq|hq
 ·rcases List.mem_append.1 hq with hq|hq
  ·obtain⟨l,_,h1⟩:=List.mem_flatMap.1 hq
   split at h1
   ·simp at h1;subst h1;cases h
   ·cases h1
  ·obtain⟨n,_,h1⟩:=List.mem_flatMap.1 hq
   unfold lf at h1;split at h1
   ·cases h1
   ·simp at h1;subst h1;rfl
 ·obtain⟨i,_,h1⟩:=List.mem_flatMap.1 hq
  unfold tc at h1;split at h1
  ·obtain⟨v,_,rfl⟩:=List.mem_map.1 h1;rfl
  ·cases h1
def cF(vs:List AV):List Nat:=vs.filterMap fun v=>match v with| .sl d _ _ _=>some d|_=>none
theorem iX{vs:List AV}{i:Nat}(h:∀(f n:Nat),vs[f]? ≠some (AV.sl i 0 n 0))(ho:∀(f:Nat) (v:AV),vs[f]? =some v→v=.nilsl∨v=.vsl 0 true []∨∃d n,v=.sl d 0 n 0):i∉cF vs:=by
 intro hm;obtain⟨v,hv,he⟩:=List.mem_filterMap.1 hm;obtain⟨f,hf⟩:=List.getElem?_of_mem hv;rcases ho f v hf with rfl|rfl|⟨d,n,rfl⟩
 ·cases he
 ·cases he
 ·simp at he;subst he;exact h f n hf
theorem vb{H:List OB}{b:Nat}{vs:List AV}{xs:Nat→List Bytes}(h:bE H b vs xs):∃us,fz (bH (b::cF vs) 0 H) 20 (.ptr b 0)=some (.vptr us)∧us.length=8∧∀(f:Nat) (u:AV),us[f]? =some u→u.hf=true∧Le u (.vsl 0 false ((xs f).map .str)):=by
 have hk:∀(f:Nat) (v:AV),vs[f]? =some v→jk (bH (b::cF vs) 0 H) v (xs f):=fun f v hv=>(h.own f v hv).fm fun d n e=>by
  rw[ij];have:(b::cF vs).contains d=true:=by
   have:d∈cF vs:=List.mem_filterMap.2 ⟨v,List.mem_of_getElem? hv,by rw[e]⟩;simp[this]
  rw[Nat.zero_add,this];cases H[d]?<;>simp
 have hone:∀(k f:Nat) (v:AV),vs[f]? =some v→∃u,fz (bH (b::cF vs) 0 H) (k+1) v=some u∧u.hf=true∧Le u (.vsl 0 false ((xs f).map .str)):=by
  intro k f v hv;rcases hk f v hv with⟨e,rfl|rfl⟩|⟨d,rfl,hd⟩
  ·rw[e];exact⟨_,rfl,rfl,.nils _ _⟩
  ·rw[e];exact⟨_,rfl,rfl,.nil _ _ _⟩
  ·have:=jJ (k:=k) hd (Nat.le_refl _)
   rw[List.take_length]at this;exact⟨_,this,by simp[AV.hf,aF],.refl _⟩
 have hmap:∀(k:Nat) (l:List AV) (o:Nat),(∀(f:Nat) (v:AV),l[f]? =some v→vs[o+f]? =some v)→∃us,l.mapM (fz (bH (b::cF vs) 0 H) (k+1))=some us∧us.length=l.length∧∀(f:Nat) (u:AV),us[f]? =some u→u.hf=true∧Le u (.vsl 0 false ((xs (o+f)).map .str)):=by
  intro k l;induction l with
  |nil=>intro o _;exact⟨[],rfl,rfl,fun f u h=>by simp at h⟩
  |cons a l ih=>
   intro o hl;obtain⟨u,q1,q2,q3⟩:=hone k (o+0) a (hl 0 a rfl);obtain⟨us,p1,p2,p3⟩:=ih (o+1) fun f v hv=>by have:=hl (f+1) v (by simpa using hv);rwa[show o+(f+1)=o+1+f by omega]at this
   refine⟨u::us,by simp[List.mapM_cons,q1,p1],by simp[p2],fun f w hw=>?_⟩;cases f with
   |zero=>simp at hw;subst hw;exact⟨q2,q3⟩
   |succ f=>rw[show o+(f+1)=o+1+f by omega];exact p3 f w (by simpa using hw)
 obtain⟨us,p1,p2,p3⟩:=hmap 18 vs 0 fun f v hv=>by rw[Nat.zero_add];exact hv
 have hb:(bH (b::cF vs) 0 H)[b]? =some (.cells vs false):=by rw[ij,h.blk];simp
 refine⟨us,?_,by rw[p2,h.len],fun f u hu=>by have:=p3 f u hu;rwa[Nat.zero_add]at this⟩;by_cases hh:AV.hfs vs=true
 ·have:us=vs:=by
   have e:=oZ (H:=bH (b::cF vs) 0 H) (k:=18) hh;rw[e]at p1;exact(Option.some.inj p1).symm
  subst this;exact wi hb (by omega) (by rw[List.drop_zero];exact hh)
 ·unfold fz
  rw[if_neg (by simp[AV.hf])];simp only[hb,List.drop_zero,Nat.zero_le,if_true,hh,Bool.false_eq_true,if_false];rw[p1];rfl
theorem HT{P:Program}{rs:List ResultVar}{T:List (Nat×AV)}{K:List OB}{v w r:AV}{d:Nat}(t ty:Nat)(hr:rs=[.cell t ty])(hd:K[d]? =some .dfr)(hl:al P ty (Av.get T t) (K.set d .dead)=some v)(hz:fz (K.set d .dead) 20 v=some w)(he:Le w r):fp P rs (.ret r) .ret ⟨T,K,[.mark d]⟩:=by
 subst hr;exact ui (qT hd) (wv t ty hl) hz he
set_option maxRecDepth 100000 in
theorem JX (c:Cd) (x:List Val) (hx:x.length=8) (hcb: ∀f,f<8→ ∀s∈ar x f,s.length≤1000000) (hcl: ∀f,(ar x f).length≤10000) (hn:c.ls.length≤1000) (hv: ∀l∈c.ls,l.v.length≤900000) (hp: ∀l∈c.ls,l.ps.length≤1000000):
    aa Tryz.prog 26 [aS c,.agg (x.map av)] (.ret (.agg [.str c.ver,.vsl 5 false ((ng c x).map bV)])):=by
  have hlv:=BV c
  have hst:=fun(H:List OB) (hJ:jL c.ver x c.ls 0 H)=>BW 9 c (by omega) (fun _=>true) H (jL c.ver x c.ls) (fun _=>False) hJ (fun i K M h=>EN M h) (fun i l K hl hJ=>by
    have hi:=(List.getElem?_eq_some_iff.1 hl).1;have hlm:=List.mem_of_getElem? hl;cases hk:aD (small l.n)with
    | none=>
      obtain⟨K',h1,h2⟩:=uX hl (by omega) (hp l hlm) hk hJ;exact⟨K',.inl ⟨rfl,h1,h2⟩⟩
    | some k=>
      cases hs:(bq x l).2 with
      | false=>
        obtain⟨K',h1,h2⟩:=uY hx hcb hl (hv l hlm) (hp l hlm) hk hs hJ;exact⟨K',.inl ⟨rfl,h1,h2⟩⟩
      | true=>
        obtain⟨K',h1,h2⟩:=tb hx hcb hl (by omega) (hv l hlm) (hp l hlm) hk hs hJ
        exact⟨K',.inl ⟨rfl,h1,h2⟩⟩)
  have hlL:ng c x=ei x c.ls++dK (bf x c.ls) x aP++gI x (bX x c.ls) 2:=rfl;obtain⟨ver,fx,ls⟩:=c;have hLh:=aN ls;have hxh:=aJ x;simp only[aS]at hlv hst hLh hlL hn ⊢;generalize ng ⟨ver,fx,ls⟩ x=LL at hlL ⊢;generalize hL:ls.map aq=L at*;have hxc:(x.map av).length=8:=by simp[hx]
  refine aa.of Tryz.func26 rfl (ab enters Tryz.func26 rfl) (by simp[Tryz.ntmps26]) ?_;show W Tryz.prog 162 0 none (.seq (.region 0 _ _) (.seq (.region 1 _ _) (.seq (.region 2 _ _) (.seq (.region 3 _ _) (.seq (.region 4 _ _) (.seq (.seq (.region 5 _ _) _) (.seq (.seq (.region 17 _ _) (.block 2 (.loop lp2))) (.seq (.seq (.region 31 _ _) (.block 6 (.loop lp6))) (.seq (.region 41 _ _) .ret))))))))) _ _;have hbv:cB Tryz.prog 24 [(0,.str ver)]=some (.agg [.str ver,.nilsl]):=by kernel_rfl
  refine .seq (.vc (by decide) ?_)
  repeat'(first|(simp(disch:=first|omega|(simp only[zL];omega))only[go_sem,seval]))
  refine .seq (.vc (by decide) ?_)
  repeat'(first|(simp(disch:=first|omega|(simp only[zL];omega))only[go_sem,seval,hbv]))
  refine .seq (.vc (by decide) ?_)
  repeat'(first|(simp(disch:=first|omega|(simp only[zL];omega))only[go_sem,seval]))
  refine .seq (.vc (by decide) ?_)
  repeat'(first|(simp(disch:=first|omega|(simp only[zL];omega))only[go_sem,seval]))
  refine .seq (.vc (by decide) ?_)
  repeat'(first|(simp(disch:=first|omega|(simp only[zL];omega))only[go_sem,seval,mK]))
  refine .seq (.vc (by decide) ?_)
  repeat'(first|(simp(disch:=first|omega|(simp only[zL];omega))only[go_sem,seval])|((with_reducible first|apply aj.pure|apply an.pure);(with_reducible exact hlv);(first|rfl|simp only[go_sem,hLh])))
  have hJ0: ∀(A:OB) (T:List (Nat×AV)),aB T [(3,.ptr 1 0),(6,.ptr 4 0),(7,.ptr 5 0),(8,.ptr 7 0)]→jL ver x ls 0 ([A,.cells (x.map av) false,.cells [.str [],.nilsl] false,.cells [.str ver,.nilsl] false,.cells [pX] false,.cells bK false,.map [] [],.cells [.map 6] false]++[.dfr,.loop T lkL]):=
    fun A T hT=>⟨rfl,⟨.nilsl,bK,rfl,rfl,.inl ⟨rfl,rfl⟩,by rw[List.take_zero];exact bE.none rfl,fun d n e=>by cases e⟩,rfl,rfl,rfl,rfl,T,rfl,hT⟩
  refine W.iQ (gf:=68) (fs:=[]) (cs:=[.vptr [.str ver,.vsl 5 fx L],.vptr [.vmap (fk.map .str) fZ]]) rfl (ab enters Tryz.func68 rfl) (hst _ (hJ0 _ _ ⟨rfl,rfl,rfl,rfl,trivial⟩)) ?_;rintro out K ⟨rfl,⟨_,hJ⟩|⟨_,hf⟩⟩
  case inr=>exact hf.elim
  obtain⟨m1,⟨ov,vs,hg⟩,m4,m6,m7,m8,T',m9,hT0⟩:=hJ;rw[List.take_length]at hg m6;refine⟨_,T',lkL,rfl,m9,by simp[lkL],?_⟩;show cC _ _ _ _ _ none;clear hst hJ0;obtain⟨M,hM⟩: ∃M,M=K.set 9 .dead:=⟨_,rfl⟩
  have gM: ∀j o,j≠9→K[j]? =some o→M[j]? =some o:=fun j o hj h=>by rw[hM,List.getElem?_set_ne (by omega)];exact h
  have hMI:qa M x ver (ei x ls) (bX x ls) (bf x ls):=⟨gM 1 _ (by omega) m1,⟨ov,vs,by rw[hM];exact hg.set _ m9 (fun cs e=>by cases e) (by omega) (by omega)⟩,gM 4 _ (by omega) m4,gM 6 _ (by omega) m6,gM 7 _ (by omega) m7,gM 8 _ (by omega) m8⟩
  simp only[cC,bl,ak];refine W.bQ T1 ⟨rfl,rfl,rfl,rfl,rfl,rfl,trivial⟩ ?_;show W Tryz.prog 162 0 none _ _ ⟨T1,K.set 9 .dead,[.mark 8]⟩;rw[←hM];clear hM gM m1 m4 m6 m7 m8 m9 hT0 hg K T' ov vs;have hol:=pW x ls;have hb5:aw Tryz.prog 25 5 [(0,.str [102,110]),(1,.str [110]),(2,.str [111,114,103]),(3,.str [116,105,116,108,101]),(4,.str [110,111,116,101])]=some (.vsl 0 true (aP.map .str)):=by kernel_rfl
  have hb2:aw Tryz.prog 25 2 [(0,.str [101,109,97,105,108]),(1,.str [116,101,108])]=some (.vsl 0 true (hG.map .str)):=by kernel_rfl
  have hl5: ∀X,aI Tryz.prog 25 (.vsl 0 true (aP.map .str)) X=some (.int .i64 5):=by intro X;simp[aI,Tryz.underlying25,aP]
  have hl2: ∀X,aI Tryz.prog 25 (.vsl 0 true (hG.map .str)) X=some (.int .i64 2):=by intro X;simp[aI,Tryz.underlying25,hG]
  refine .seq (.vc (by decide) ?_)
  repeat'(first|(simp(disch:=first|omega|(simp only[zL];omega))only[go_sem,seval,hb5,hl5]))
  refine JV hx hcb (L:=ei x ls) (xs:=bX x ls) (th:=bf x ls) (ver:=ver) (by omega) ⟨⟨rfl,rfl,rfl,rfl,rfl,rfl,rfl,rfl,rfl,trivial⟩,by simpa[dK]using hMI,rfl,Nat.zero_le _⟩ ?_;clear hMI M;rintro⟨T,M,D⟩ ⟨hT,hI,rfl,_⟩;simp only at hT hI;rw[List.take_of_length_le (show aP.length≤5 from Nat.le_refl _)]at hI;obtain⟨ov,vs,hg⟩:=hI.grow;obtain⟨us,f1,f2,f3⟩:=vb hg.con;simp only[ak];have hown: ∀(f:Nat) (v:AV),vs[f]? =some v→v=.nilsl∨v=.vsl 0 true []∨ ∃d n,v=.sl d 0 n 0:=fun f v hvf=>by
    rcases hg.con.own f v hvf with⟨_,h|h⟩|⟨d,h,_⟩
    · exact .inl h
    · exact .inr (.inl h)
    · exact .inr (.inr ⟨d,_,h⟩)
  have hkeep: ∀(j:Nat) (o:OB),j≠5→M[j]? =some o→(∀cs,o≠OB.cells cs true)→(cy (5::cF vs) 0 M)[j]? =some o:=fun j o hj ho hno=>by
    rw[iA]
    · exact ho
    · intro hm
      rcases List.mem_cons.1 hm with e|e
      · exact hj e
      · exact iX (hg.con.free ho hno) hown e
  have hold:na (cy (5::cF vs) 0 M) ov (ei x ls++dK (bf x ls) x aP):=hg.own.fm fun d n e=>by
    obtain⟨cs,hcs⟩:=hg.own.lt e;rw[iA];intro hm;rcases List.mem_cons.1 hm with e2|e2
    · subst e2;rw[hg.con.blk]at hcs;injection(Option.some.inj hcs)with _ h;cases h
    · exact iX (hg.apart d n e) hown e2
  have hN:zO (cy (5::cF vs) 0 M) x ver (ei x ls++dK (bf x ls) x aP):=⟨hkeep 1 _ (by omega) hI.con (fun cs e=>by cases e),hkeep 2 _ (by omega) hg.two (fun cs e=>by cases e),⟨ov,hkeep 3 _ (by omega) hg.blk (fun cs e=>by cases e),hold⟩,hkeep 4 _ (by omega) hI.fn (fun cs e=>by cases e),hkeep 8 _ (by omega) hI.dfr (fun cs e=>by cases e)⟩
  obtain⟨t83,t82,t81,t3,t4,t5,t6,t7,t8,_⟩:=hT;refine W.FD (5::cF vs) (U1 us) ⟨.inl t3,.inl t4,.inl t5,.inl t6,.inr ⟨_,by rw[t7];exact f1,.refl _⟩,trivial⟩ ?_;have hnl:=rp (bf x ls) x aP;have hn5:aP.length=5:=rfl;show W Tryz.prog 162 0 none _ _ ⟨U1 us,cy (5::cF vs) 0 M,[.mark 8]⟩;generalize cy (5::cF vs) 0 M=M2 at*;clear t83 t82 t81 t3 t4 t5 t6 t7 t8 hkeep hold hown f1 hI hg;refine .seq (.vc (by decide) ?_)
  repeat'(first|(simp(disch:=first|omega|(simp only[zL];omega))only[go_sem,seval,hb2,hl2]))
  refine JW hx hcb hcl (L:=ei x ls++dK (bf x ls) x aP) (told:=bX x ls) (us:=us) (ver:=ver) (by rw[List.length_append];omega) f2 f3 ⟨⟨rfl,rfl,rfl,rfl,rfl,rfl,rfl,rfl,trivial⟩,by simpa[gI]using hN,rfl,Nat.zero_le _⟩ ?_;clear hN M M2;rintro⟨T,M,D⟩ ⟨hT,hI,rfl,_⟩;simp only at hT hI;rw[←hlL]at hI;simp only[ak];obtain⟨ov,h3,ho⟩:=hI.blk;obtain⟨t130,t129,t128,t3,t4,t5,t6,t7,_⟩:=hT;refine W.bQ [(4,.ptr 2 0),(5,.ptr 3 0)] ⟨t4,t5,trivial⟩ ?_;have l2:=(List.getElem?_eq_some_iff.1 hI.two).1;have k1:al Tryz.prog 24 (.ptr 3 0) M=some (.agg [.str ver,ov]):=by
    simp[tZ,ldG,h3]
  have hoc:ov.isC=true∧ov.cells=[ov]:=by rcases ho with⟨_,rfl⟩|⟨d,rfl,_⟩<;>exact⟨rfl,rfl⟩
  have k2:aE Tryz.prog 24 (.ptr 2 0) (.agg [.str ver,ov]) M=some (M.set 2 (.cells [.str ver,ov] false)):=by
    rw[Dt];simp[stC,hI.two,AV.cells,cm,show AV.isC (.str ver)=true from rfl,hoc.1]
  refine .vc (by decide) ?_
  repeat'(first|(simp(disch:=first|omega|(simp only[zL];omega))only[go_sem,seval,k1,k2]))
  obtain⟨M3,hM3⟩: ∃M3,M3=(M.set 2 (OB.cells [.str ver,ov] false)).set 8 .dead:=⟨_,rfl⟩
  have ho3:na M3 ov LL:=ho.fm fun d n e=>by
    obtain⟨cs,hcs⟩:=ho.lt e;have d2:d≠2:=by rintro rfl;rw[hI.two]at hcs;injection(Option.some.inj hcs)with _ h;cases h
    have d8:d≠8:=by rintro rfl;rw[hI.dfr]at hcs;cases hcs
    rw[hM3,List.getElem?_set_ne (by omega),List.getElem?_set_ne (by omega)]
  have hs3:kN (4+1) bV M3 (deN ov) LL:=by
    rcases ho3 with⟨e,rfl⟩|⟨d,rfl,hd⟩
    · exact .inl ⟨e,0,rfl⟩
    · exact .inr ⟨d,rfl,hd⟩
  obtain⟨w,hw1,hw2⟩:=ob (k:=18) (n:=4) (by decide) (fun q=>⟨_,rfl,rfl⟩) (fun q=>by have:=sW q;rw[bV,AV.hf]at this;exact this) hs3;have hwz: ∃w',fz M3 19 ov=some w'∧Le w' (.vsl 5 false (LL.map bV)):=by
    rcases ho3 with⟨e,rfl⟩|⟨d,rfl,hd⟩
    · exact⟨_,rfl,by rw[e];exact .nils _ _⟩
    · exact⟨w,hw1,hw2⟩
  obtain⟨w',hw3,hw4⟩:=hwz;refine HT 4 24 rfl (by rw[List.getElem?_set_ne (by omega)];exact hI.dfr) (v:=.agg [.str ver,ov]) (w:=.agg [.str ver,w']) ?_ ?_ (.agg _ _ (.cons _ _ _ _ (.refl _) (.cons _ _ _ _ hw4 .nil)))
  · show al _ _ (.ptr 2 0) _=_
    simp[tZ,ldG,List.getElem?_set_ne (show(8:Nat)≠2 by omega),List.getElem?_set_self l2]
  · rw[←hM3]
    refine kO ?_;simp only[List.mapM_cons,List.mapM_nil,cJ (show AV.hf (.str ver)=true from rfl),hw3];rfl
theorem JY(c:Cd)(x:List Val)(hx:x.length=8)(hcb: ∀f,f<8→ ∀s∈ar x f,s.length≤1000000)(hcl: ∀f,(ar x f).length≤10000)(hn:c.ls.length≤1000)(hv: ∀l∈c.ls,l.v.length≤900000)(hp: ∀l∈c.ls,l.ps.length≤1000000):
    aa Tryz.prog 26 [aS c,.agg (x.map av)] (.ret (aS (dL c x))):=
  aa.FN (JX c x hx hcb hcl hn hv hp) (.agg (.cons (.refl _) (.cons (.elems (pV _ (Co c x))) .nil)))
def ia:Bytes:=[52,46,48]
def fw:Cd:=⟨[],false,[]⟩
def aM(c:Cd)(x:List Val):Cd×Nat:=
 if aL c=0∧br (ar x)=true then(if(ofP c).2=0 then(if aL (dL c x)=0 then(dL c x,0)else(fw,3))else(fw,(ofP c).2))else(fw,2)
def iC(x:List Val):Cd×Nat:=
 if br (ar x)=true then(if aL (dL ⟨ia,true,[]⟩ x)=0 then(dL ⟨ia,true,[]⟩ x,0)else(fw,3))else(fw,2)
theorem EV{c:Cd}(h:aL c=0):∀l∈c.ls,l.ps.length≤8:=by
 have hr:bU c=true:=by
  unfold aL at h;split at h
  ·assumption
  ·cases h
 unfold bU at hr;simp only[Bool.and_eq_true,decide_eq_true_eq,List.all_eq_true]at hr;intro l hl;have:=hr.2 l hl;simp only[cf,Bool.and_eq_true,decide_eq_true_eq]at this;have:=this.2.2.2.2.2.1;omega
theorem gJ{x:List Val}(hx:x.length=8)(h:br (ar x)=true):(∀f,f<8→∀s∈ar x f,s.length≤1000000)∧∀f,(ar x f).length≤10000:=by
 unfold br at h;simp only[Bool.and_eq_true,List.all_eq_true,List.mem_range]at h;have key:∀f,f<8→dp f (ar x f)=true:=h.1;refine⟨fun f hf s hs=>?_,fun f=>?_⟩
 ·have:=key f hf
  simp only[dp,Bool.and_eq_true,List.all_eq_true,decide_eq_true_eq]at this;have:=this.2.1 s hs;simp only[eO,Bool.and_eq_true,decide_eq_true_eq]at this;omega
 ·by_cases hf:f<8
  ·have:=key f hf
   simp only[dp,Bool.and_eq_true,decide_eq_true_eq]at this;have h1:=this.1;have:fi f≤8:=by unfold fi;split<;>omega
   omega
  ·have:ar x f=[]:=by simp[ar,List.getD,List.getElem?_eq_none (show x.length≤f by omega)]
   rw[this];simp
theorem fo(c:List Val):(c.map av).all AV.isC=true:=by
 rw[List.all_eq_true];intro v hv;obtain⟨r,_,rfl⟩:=List.mem_map.1 hv;rfl
theorem kD:cB Tryz.prog 24 []=some (.agg [.str [],.nilsl]):=by kernel_rfl
theorem dR(x:Bool)(e:Int):Le (.tup [.agg [.str [],.nilsl],.int .i64 e]) (.tup [aS fw,.int .i64 e]):=
 .tup _ _ (.cons _ _ _ _ (.agg _ _ (.cons _ _ _ _ (.refl _) (.cons _ _ _ _ (.nils _ _) .nil))) (.cons _ _ _ _ (.refl _) .nil))
theorem dD{rs:List ResultVar}{T:List (Nat×AV)}{K:List OB}{v:AV}{cs:List AV}{e:Int}(t s d:Nat)(hr:rs=[.cell t 24,.tmp s])(ht:Av.get T t=.ptr d 0)(hs:Av.get T s=.int .i64 e)(hd:K[d]? =some (.cells cs false))(hl:cs.length=2)(hv:AV.hfs cs=true)(hle:Le (.tup [.agg cs,.int .i64 e]) v):fp Tryz.prog rs (.ret v) .ret ⟨T,K,[]⟩:=by
 subst hr;refine ui (a1:=⟨T,K,[]⟩) (v:=.tup [.agg cs,.int .i64 e]) rfl (pb t 24 s ?_ hs) (cJ (by simp[AV.hf,AV.hfs,hv])) hle;simp only[ht,tZ,ldG,hd];rw[if_pos (by omega),List.drop_zero,List.take_of_length_le (by omega)]
set_option maxRecDepth 8000 in
theorem qd(c:Cd)(x:List Val)(hx:x.length=8):aa Tryz.prog 12 [aS c,.agg (x.map av)] (.ret (.tup [aS (aM c x).1,.int .i64 ((aM c x).2:Nat)])):=by
 have hck:=sE c;have hcv:=Hh x hx;have hof:=lb c;have ho:aM c x=if aL c=0∧br (ar x)=true then(if(ofP c).2=0 then(if aL (dL c x)=0 then(dL c x,0)else(fw,3))else(fw,(ofP c).2))else(fw,2):=rfl
 have hly:aL c=0→br (ar x)=true→aa Tryz.prog 26 [aS c,.agg (x.map av)] (.ret (aS (dL c x))):=fun h1 h2=>
  JY c x hx (gJ hx h2).1 (gJ hx h2).2 (by have:=(ey h1).1;omega) (fun l hl=>by have:=((ey h1).2 l hl).1;omega) (fun l hl=>by have:=EV h1 l hl;omega)
 have hck2:=sE (dL c x);have hoh:=aJ (bc (ofP c).1);have hlen:((bc (ofP c).1).map av).length=8:=by rw[List.length_map,bM]
 have hoc:=fo (bc (ofP c).1);generalize dL c x=o at*;generalize aM c x=r at*;obtain⟨ver,fx,ls⟩:=c;obtain⟨over,ofx,ols⟩:=o;have hLh:=aN ls;have hOh:=aN ols;have hxh:=aJ x;have hxc:(x.map av).length=8:=by simp[hx]
 simp only[aS]at hck hck2 hly hof ho ⊢;generalize hL:ls.map aq=L at*;generalize hOL:ols.map aq=OL at*;generalize hX:x.map av=X at*;generalize hE:(ofP ⟨ver,fx,ls⟩).2=E at*;generalize(bc (ofP ⟨ver,fx,ls⟩).1).map av=Y at*;have hldx:∀A Z,al Tryz.prog 27 (.ptr 1 0) (A::.cells X false::Z)=some (.agg X):=by
  intro A Z;simp[gQ,ldG,hxc];exact List.take_of_length_le (by omega)
 by_cases h0:aL ⟨ver,fx,ls⟩=0
 case neg=>
  rw[if_neg (fun h=>h0 h.1)]at ho;subst ho;have hb:((aL ⟨ver,fx,ls⟩:Nat):Int)≠0:=by omega
  refine aa.of Tryz.func12 rfl (ab enters Tryz.func12 rfl) (by simp[Tryz.ntmps12]) ?_;show W Tryz.prog 35 0 none _ _ _;refine W.vc (by decide) ?_
  repeat'(first|(simp(disch:=first|omega|(simp only[zL];omega))only[go_sem,seval,hldx,hb,kD])|((with_reducible first|apply aj.pure|apply an.pure);(with_reducible exact hck);(first|rfl|simp only[go_sem,hLh,hxh])))
  exact dD 4 5 2 rfl rfl rfl rfl rfl rfl (dR true _)
 rw[h0]at hck;by_cases h1:br (ar x)=true
 case neg=>
  rw[if_neg (fun h=>h1 h.2)]at ho;subst ho;have h1':br (ar x)=false:=by simpa using h1
  rw[h1',if_neg (by simp)]at hcv;refine aa.of Tryz.func12 rfl (ab enters Tryz.func12 rfl) (by simp[Tryz.ntmps12]) ?_;show W Tryz.prog 35 0 none _ _ _;refine W.vc (by decide) ?_
  repeat'(first|(simp(disch:=first|omega|(simp only[zL];omega))only[go_sem,seval,hldx,kD])|((with_reducible first|apply aj.pure|apply an.pure);(with_reducible assumption);(first|rfl|simp only[go_sem,hLh,hxh])))
  exact dD 4 5 2 rfl rfl rfl rfl rfl rfl (dR true _)
 rw[h1,if_pos rfl]at hcv;rw[if_pos ⟨h0,h1⟩]at ho;have hly:=hly h0 h1;have hsty:∀A B C,aE Tryz.prog 27 (.ptr 3 0) (.agg Y) [A,B,C,.cells [.nilsl,.nilsl,.nilsl,.nilsl,.nilsl,.nilsl,.nilsl,.nilsl] false]=some [A,B,C,.cells Y false]:=by
  intro A B C;exact dZ (vs:=bK) rfl rfl hlen hoc rfl
 by_cases h2:E=0
 case neg=>
  rw[if_neg h2]at ho;subst ho;have hb:((E:Nat):Int)≠0:=by omega
  refine aa.of Tryz.func12 rfl (ab enters Tryz.func12 rfl) (by simp[Tryz.ntmps12]) ?_;show W Tryz.prog 35 0 none _ _ _;refine W.vc (by decide) ?_
  repeat'(first|(simp(disch:=first|omega|(simp only[zL];omega))only[go_sem,seval,hldx,hsty,hb,kD])|((with_reducible first|apply aj.pure|apply an.pure);(with_reducible assumption);(first|rfl|simp only[go_sem,hLh,hxh])))
  exact dD 4 5 2 rfl rfl rfl rfl rfl rfl (dR true _)
 rw[if_pos h2]at ho;rw[h2]at hof;by_cases h3:aL ⟨over,ofx,ols⟩=0
 case neg=>
  rw[if_neg h3]at ho;subst ho;have hb:((aL ⟨over,ofx,ols⟩:Nat):Int)≠0:=by omega
  refine aa.of Tryz.func12 rfl (ab enters Tryz.func12 rfl) (by simp[Tryz.ntmps12]) ?_;show W Tryz.prog 35 0 none _ _ _;refine W.vc (by decide) ?_
  repeat'(first|(simp(disch:=first|omega|(simp only[zL];omega))only[go_sem,seval,hldx,hsty,hb,kD])|((with_reducible first|apply aj.pure|apply an.pure);(with_reducible assumption);(first|rfl|simp only[go_sem,hLh,hxh,hOh])))
  exact dD 4 5 2 rfl rfl rfl rfl rfl rfl (dR true _)
 rw[if_pos h3]at ho;rw[h3]at hck2;subst ho;simp only[hOL];refine aa.of Tryz.func12 rfl (ab enters Tryz.func12 rfl) (by simp[Tryz.ntmps12]) ?_;show W Tryz.prog 35 0 none _ _ _;refine W.vc (by decide) ?_
 repeat'(first|(simp(disch:=first|omega|(simp only[zL];omega))only[go_sem,seval,hldx,hsty,kD])|((with_reducible first|apply aj.pure|apply an.pure);(with_reducible assumption);(first|rfl|simp only[go_sem,hLh,hxh,hOh])))
 exact dD 4 5 2 rfl rfl rfl rfl rfl (by simp[AV.hfs,AV.hf,hOh]) (.refl _)
set_option maxRecDepth 8000 in
theorem LG(x:List Val)(hx:x.length=8):aa Tryz.prog 20 [.agg (x.map av)] (.ret (.tup [aS (iC x).1,.int .i64 ((iC x).2:Nat)])):=by
 have hcv:=Hh x hx;have ho:iC x=if br (ar x)=true then(if aL (dL ⟨ia,true,[]⟩ x)=0 then(dL ⟨ia,true,[]⟩ x,0)else(fw,3))else(fw,2):=rfl
 have hly:br (ar x)=true→aa Tryz.prog 26 [.agg [.str [52,46,48],.nilsl],.agg (x.map av)] (.ret (aS (dL ⟨ia,true,[]⟩ x))):=fun h2=>
  aa.le (.cons _ _ _ _ (.agg _ _ (.cons _ _ _ _ (.refl _) (.cons _ _ _ _ (.nils _ _) .nil))) (.cons _ _ _ _ (.refl _) .nil)) (JY ⟨ia,true,[]⟩ x hx (gJ hx h2).1 (gJ hx h2).2 (by simp) (fun l hl=>by cases hl) (fun l hl=>by cases hl))
 have hck2:=sE (dL ⟨ia,true,[]⟩ x);generalize dL ⟨ia,true,[]⟩ x=o at*;generalize iC x=r at*;obtain⟨over,ofx,ols⟩:=o;have hOh:=aN ols;have hxh:=aJ x;have hxc:(x.map av).length=8:=by simp[hx]
 simp only[aS]at hck2 hly ho ⊢;generalize hOL:ols.map aq=OL at*;generalize hX:x.map av=X at*;have hldx:∀Z,al Tryz.prog 27 (.ptr 0 0) (.cells X false::Z)=some (.agg X):=by
  intro Z;simp[gQ,ldG,hxc];exact List.take_of_length_le (by omega)
 have hbv:cB Tryz.prog 24 [(0,.str [52,46,48])]=some (.agg [.str [52,46,48],.nilsl]):=by kernel_rfl
 by_cases h1:br (ar x)=true
 case neg=>
  rw[if_neg h1]at ho;subst ho;have h1':br (ar x)=false:=by simpa using h1
  rw[h1',if_neg (by simp)]at hcv;refine aa.of Tryz.func20 rfl (ab enters Tryz.func20 rfl) (by simp[Tryz.ntmps20]) ?_;show W Tryz.prog 17 0 none _ _ _;refine W.vc (by decide) ?_
  repeat'(first|(simp(disch:=first|omega|(simp only[zL];omega))only[go_sem,seval,hldx,kD])|((with_reducible first|apply aj.pure|apply an.pure);(with_reducible exact hcv);(first|rfl|simp only[go_sem,hxh])))
  exact dD 2 3 1 rfl rfl rfl rfl rfl rfl (dR true _)
 rw[h1,if_pos rfl]at hcv;rw[if_pos h1]at ho;have hly:=hly h1;by_cases h3:aL ⟨over,ofx,ols⟩=0
 case neg=>
  rw[if_neg h3]at ho;subst ho;have hb:((aL ⟨over,ofx,ols⟩:Nat):Int)≠0:=by omega
  refine aa.of Tryz.func20 rfl (ab enters Tryz.func20 rfl) (by simp[Tryz.ntmps20]) ?_;show W Tryz.prog 17 0 none _ _ _;refine W.vc (by decide) ?_
  repeat'(first|(simp(disch:=first|omega|(simp only[zL];omega))only[go_sem,seval,hldx,hb,kD,hbv])|((with_reducible first|apply aj.pure|apply an.pure);(with_reducible assumption);(first|rfl|simp only[go_sem,hxh,hOh])))
  exact dD 2 3 1 rfl rfl rfl rfl rfl rfl (dR true _)
 rw[if_pos h3]at ho;rw[h3]at hck2;subst ho;simp only[hOL];refine aa.of Tryz.func20 rfl (ab enters Tryz.func20 rfl) (by simp[Tryz.ntmps20]) ?_;show W Tryz.prog 17 0 none _ _ _;refine W.vc (by decide) ?_
 repeat'(first|(simp(disch:=first|omega|(simp only[zL];omega))only[go_sem,seval,hldx,kD,hbv])|((with_reducible first|apply aj.pure|apply an.pure);(with_reducible assumption);(first|rfl|simp only[go_sem,hxh,hOh])))
 exact dD 2 3 1 rfl rfl rfl rfl rfl (by simp[AV.hfs,AV.hf,hOh]) (.refl _)
theorem Cp(x:UInt8):okI true (low x).toNat=im x.toNat:=by
 have:=jD (fun x=>okI true (low x).toNat==im x.toNat) (by decide+kernel) x;simpa using this
theorem HU(x:UInt8):okI false (low x).toNat=nR x.toNat:=by
 have:=jD (fun x=>okI false (low x).toNat==nR x.toNat) (by decide+kernel) x;simpa using this
theorem zQ(x:UInt8)(h:im x.toNat=true):nR x.toNat=true:=by
 have:=jD (fun x=>!im x.toNat||nR x.toNat) (by decide+kernel) x;simp only[h,Bool.not_true,Bool.false_or]at this;exact this
theorem EW(x:UInt8):low (low x)=low x:=by
 have:=jD (fun x=>low (low x)==low x) (by decide+kernel) x;simpa using this
theorem ve(s:Bytes):small (small s)=small s:=by
 simp only[small,List.map_map];congr 1;funext x;exact EW x
theorem Cq(s:Bytes):dz s=ew (small s):=by
 simp[dz,kQ,ph,ve]
theorem vf:∀(i:Nat) (s:Bytes),1≤i→pd i (small s)=s.all fun y=>nR y.toNat
 |i,[],_=>rfl
 |i,x::t,h=>by
  have hi:(i==0)=false:=by simp;omega
  have ih:=vf (i+1) t (by omega);simp only[small,List.map_cons,pd,hi,List.all_cons,HU]at ih ⊢;rw[ih]
theorem EX(s:Bytes):nB s=dz s:=by
 rw[Cq];cases s with
 |nil=>simp[nB,ew,small]
 | cons x t=>
  have h1:=vf 1 t (Nat.le_refl _);simp only[nB,ew,small,List.map_cons,pd,beq_self_eq_true,Cp,List.all_cons,List.length_cons,List.length_map]at h1 ⊢;rw[h1];cases hl:im x.toNat with
  |false=>simp
  | true=>
   rw[zQ x hl];simp only[Bool.true_and];cases ha:(t.all fun y=>nR y.toNat)with
   |false=>simp
   |true=>
    simp only[Bool.and_true,Bool.true_and];have e1:decide (((t.length+1:Nat):Int)≥1)=true:=decide_eq_true (by omega);rw[e1,Bool.true_and];by_cases h:((t.length+1:Nat):Int)>64
    ·rw[decide_eq_true h,decide_eq_false (by omega)];rfl
    ·rw[decide_eq_false h,decide_eq_true (by omega)];rfl
theorem wZ(s:Bytes):aa Tryz.prog 130 [.str s] (.ret (.bool (dz s))):=by rw[←EX];exact Ec s
set_option maxRecDepth 8000 in
theorem EY(p:Bytes×Bytes):aa Tryz.prog 146 [aH p] (.ret (.bool (dC p))):=by
 obtain⟨n,v⟩:=p;refine aa.zh fun hfit=>?_;have hvl:v.length≤9223372036854775807:=hfit [.str n,.str v] (by simp[aH]) (.str v) (by simp);refine aa.of Tryz.func146 rfl (ab enters Tryz.func146 rfl) (by simp[Tryz.ntmps146]) ?_;show W Tryz.prog 32 0 none _ _ _;refine W.vc (by decide) ?_;simp only[aH]
 repeat'(first|(simp(disch:=first|omega|(simp only[zL];omega))only[go_sem,seval]))
 refine W.bh (X:=Nat) (fun i=>[(3,.int .i64 (i:Int)),(1,.ptr 0 0)]) (fun _=>[.cells [.str n,.str v] false]) (fun i=>i≤v.length∧(v.take i).all byP=true) (fun i=>v.length - i) 0 ⟨Nat.zero_le _,by simp⟩ ⟨rfl,rfl,trivial⟩ rfl ?_;rintro i ⟨hi,hall⟩;refine .vc (by decide) ?_;by_cases h:i<v.length
 ·obtain⟨x,hx,_⟩:=drop_at h
  have bad:byP x=false→dC (n,v)=false:=by
   intro hb;simp only[dC,sJ hx hb,Bool.and_false]
  by_cases h1:x.toNat<32
  ·have hb:byP x=false:=by simp[byP];omega
   rw[bad hb]
   repeat'(first|(simp(disch:=first|omega|(simp only[zL];omega))only[go_sem,seval,xi9 hx]))
   exact⟨_,rfl,_,rfl,.refl _⟩
  ·by_cases h2:x.toNat=34
   ·have hb:byP x=false:=by simp[byP,h2]
    rw[bad hb]
    repeat'(first|(simp(disch:=first|omega|(simp only[zL];omega))only[go_sem,seval,xi9 hx]))
    exact⟨_,rfl,_,rfl,.refl _⟩
   ·have hb:byP x=true:=by simp[byP];omega
    repeat'(first|(simp(disch:=first|omega|(simp only[zL];omega))only[go_sem,seval,xi9 hx]))
    exact⟨i+1,⟨by omega,all_succ hx hall hb⟩,by omega,⟨rfl,rfl,trivial⟩⟩
 ·have e:i=v.length:=by omega
  subst e;rw[List.take_length]at hall;have hn:=wZ n;have e2:dC (n,v)=(dz n&&decide ((v.length:Int)≤100)):=by simp only[dC,hall,Bool.and_true]
  rw[e2];cases hb:dz n with
  | true=>
   rw[hb]at hn;by_cases h3:v.length≤100
   ·rw[decide_eq_true (show(v.length:Int)≤100 by omega)]
    repeat'(first|(simp(disch:=first|omega|(simp only[zL];omega))only[go_sem,seval])|((with_reducible first|apply aj.pure|apply an.pure);(with_reducible exact hn);(first|rfl|simp only[go_sem])))
    exact⟨_,rfl,_,rfl,.refl _⟩
   ·rw[decide_eq_false (show¬(v.length:Int)≤100 by omega)]
    repeat'(first|(simp(disch:=first|omega|(simp only[zL];omega))only[go_sem,seval])|((with_reducible first|apply aj.pure|apply an.pure);(with_reducible exact hn);(first|rfl|simp only[go_sem])))
    exact⟨_,rfl,_,rfl,.refl _⟩
  |false=>
   rw[hb]at hn
   repeat'(first|(simp(disch:=first|omega|(simp only[zL];omega))only[go_sem,seval])|((with_reducible first|apply aj.pure|apply an.pure);(with_reducible exact hn);(first|rfl|simp only[go_sem])))
   exact⟨_,rfl,_,rfl,.refl _⟩
set_option maxRecDepth 8000 in
theorem HV (l:Ln):aa Tryz.prog 114 [aq l] (.ret (.bool (cf l))):=by
  refine aa.zh fun hfit=> ?_;obtain⟨g,n,x,ps,v⟩:=l;have hvl:v.length≤9223372036854775807:=hfit [.str g,.str n,.vsl 3 x (ps.map aH),.str v] (by simp[aq]) (.str v) (by simp);have hpl:ps.length≤9223372036854775807:=by
    have:(ps.map aH).length≤9223372036854775807:=hfit [.str g,.str n,.vsl 3 x (ps.map aH),.str v] (by simp[aq]) (.vsl 3 x (ps.map aH)) (by simp);simpa using this
  refine aa.of Tryz.func114 rfl (ab enters Tryz.func114 rfl) (by simp[Tryz.ntmps114]) ?_;show W Tryz.prog 80 0 none _ _ _;simp only[aq];have hs:=jz n;have hn:=wZ (small n);have hg:=wZ g;cases c1:dz (small n)with
  | false=>
    have e:cf ⟨g,n,x,ps,v⟩=false:=by simp[cf,c1]
    rw[c1]at hn;rw[e];refine .vc (by decide) ?_
    repeat'(first|(simp(disch:=first|omega|(simp only[zL];omega))only[go_sem,seval])|((with_reducible first|apply aj.pure|apply an.pure);(with_reducible assumption);(first|rfl|simp only[go_sem])))
    exact⟨_,rfl,_,rfl,.refl _⟩
  |true=>
  rw[c1]at hn;cases c2:small n==jA with
  | true=>
    have e:cf ⟨g,n,x,ps,v⟩=false:=by simp[cf,c2]
    simp only[jA]at c2;rw[e];refine .vc (by decide) ?_
    repeat'(first|(simp(disch:=first|omega|(simp only[zL];omega))only[go_sem,seval,c2])|((with_reducible first|apply aj.pure|apply an.pure);(with_reducible assumption);(first|rfl|simp only[go_sem])))
    exact⟨_,rfl,_,rfl,.refl _⟩
  |false=>
  cases c3:small n==wB with
  | true=>
    have e:cf ⟨g,n,x,ps,v⟩=false:=by simp[cf,c3]
    simp only[jA]at c2;simp only[wB]at c3;rw[e];refine .vc (by decide) ?_
    repeat'(first|(simp(disch:=first|omega|(simp only[zL];omega))only[go_sem,seval,c2,c3])|((with_reducible first|apply aj.pure|apply an.pure);(with_reducible assumption);(first|rfl|simp only[go_sem])))
    exact⟨_,rfl,_,rfl,.refl _⟩
  |false=>
  cases c4:small n==iq with
  | true=>
    have e:cf ⟨g,n,x,ps,v⟩=false:=by simp[cf,c4]
    simp only[jA]at c2;simp only[wB]at c3;simp only[iq]at c4;rw[e];refine .vc (by decide) ?_
    repeat'(first|(simp(disch:=first|omega|(simp only[zL];omega))only[go_sem,seval,c2,c3,c4])|((with_reducible first|apply aj.pure|apply an.pure);(with_reducible assumption);(first|rfl|simp only[go_sem])))
    exact⟨_,rfl,_,rfl,.refl _⟩
  |false=>
  have e0:cf ⟨g,n,x,ps,v⟩=((g==[]||dz g)&&(decide ((ps.length:Int)≤8)&&(ps.all dC&&(decide ((v.length:Int)≤4000)&&v.all byL)))):=by
    simp only[cf,c1,c2,c3,c4,Bool.not_false,Bool.true_and]
  simp only[jA]at c2;simp only[wB]at c3;simp only[iq]at c4
  have loops: ∀(T:List (Nat×AV)),(g==[]||dz g)=true→ps.length≤8→v.length≤4000→aB T [(1,.ptr 0 0)]→
      W Tryz.prog 80 0 none (match Tryz.f114.body with|some (.seq _ (.seq _ (.seq _ c)))=>c|_=>.skip) (fp Tryz.prog Tryz.f114.results.toList (.ret (.bool (cf ⟨g,n,x,ps,v⟩)))) ⟨T,[.cells [.str g,.str n,.vsl 3 x (ps.map aH),.str v] false],[]⟩:=by
    intro T q1 q2 q3 hT;rw[e0,q1,decide_eq_true (show(ps.length:Int)≤8 by omega),decide_eq_true (show(v.length:Int)≤4000 by omega)];simp only[Bool.true_and];refine W.bQ _ hT ?_;show W Tryz.prog 80 0 none (.seq (.seq _ _) _) _ _;refine .vc (by decide) ?_
    repeat'(first|(simp(disch:=first|omega|(simp only[zL];omega))only[go_sem,seval]))
    refine W.bh (X:=Nat) (fun i=>[(4,.int .i64 (i:Int)),(1,.ptr 0 0)]) (fun _=>[.cells [.str g,.str n,.vsl 3 x (ps.map aH),.str v] false]) (fun i=>i≤ps.length∧(ps.take i).all dC=true) (fun i=>ps.length - i) 0 ⟨Nat.zero_le _,by simp⟩ ⟨rfl,rfl,trivial⟩ rfl ?_;rintro i ⟨hi,hall⟩;refine .vc (by decide) ?_;by_cases h:i<ps.length
    · obtain⟨u,hu,_⟩:=drop_at h
      have hia: ∀H,ah Tryz.prog 44 (.vsl 3 x (ps.map aH)) (.int .i64 (i:Int)) H=some (.vptr [.str u.1,.str u.2]):=fun H=>zj (v:=aH u) (by simp[hu]) rfl H;have hpu:=EY u;simp only[aH]at hpu;cases hb:dC u with
      | false=>
        rw[hb]at hpu;rw[sJ hu hb,Bool.false_and]
        repeat'(first|(simp(disch:=first|omega|(simp only[zL];omega))only[go_sem,seval,hia])|((with_reducible first|apply aj.pure|apply an.pure);(with_reducible exact hpu);(first|rfl|simp only[go_sem])))
        exact⟨_,rfl,_,rfl,.refl _⟩
      | true=>
        rw[hb]at hpu
        repeat'(first|(simp(disch:=first|omega|(simp only[zL];omega))only[go_sem,seval,hia])|((with_reducible first|apply aj.pure|apply an.pure);(with_reducible exact hpu);(first|rfl|simp only[go_sem])))
        exact⟨i+1,⟨by omega,all_succ hu hall hb⟩,by omega,⟨rfl,rfl,trivial⟩⟩
    · have e:i=ps.length:=by omega
      subst e;rw[List.take_length]at hall;rw[hall,Bool.true_and]
      repeat'(first|(simp(disch:=first|omega|(simp only[zL];omega))only[go_sem,seval]))
      refine W.bh (X:=Nat) (fun i=>[(5,.int .i64 (i:Int)),(1,.ptr 0 0)]) (fun _=>[.cells [.str g,.str n,.vsl 3 x (ps.map aH),.str v] false]) (fun i=>i≤v.length∧(v.take i).all byL=true) (fun i=>v.length - i) 0 ⟨Nat.zero_le _,by simp⟩ ⟨rfl,rfl,trivial⟩ rfl ?_;rintro i ⟨hi,hall2⟩;refine .vc (by decide) ?_;by_cases h:i<v.length
      · obtain⟨y,hy,_⟩:=drop_at h
        by_cases h1:y.toNat<32
        · by_cases h2:y.toNat=9
          · have hb:byL y=true:=by simp[byL,h2]
            repeat'(first|(simp(disch:=first|omega|(simp only[zL];omega))only[go_sem,seval,xi9 hy]))
            exact⟨i+1,⟨by omega,all_succ hy hall2 hb⟩,by omega,⟨rfl,rfl,trivial⟩⟩
          · have hb:byL y=false:=by simp[byL];omega
            rw[sJ hy hb]
            repeat'(first|(simp(disch:=first|omega|(simp only[zL];omega))only[go_sem,seval,xi9 hy]))
            exact⟨_,rfl,_,rfl,.refl _⟩
        · have hb:byL y=true:=by simp[byL];omega
          repeat'(first|(simp(disch:=first|omega|(simp only[zL];omega))only[go_sem,seval,xi9 hy]))
          exact⟨i+1,⟨by omega,all_succ hy hall2 hb⟩,by omega,⟨rfl,rfl,trivial⟩⟩
      · have e:i=v.length:=by omega
        subst e;rw[List.take_length]at hall2;rw[hall2]
        repeat'(first|(simp(disch:=first|omega|(simp only[zL];omega))only[go_sem,seval]))
        exact⟨_,rfl,_,rfl,.refl _⟩
  refine .seq (.vc (by decide) ?_)
  repeat'(first|(simp(disch:=first|omega|(simp only[zL];omega))only[go_sem,seval]))
  refine .seq (.vc (by decide) ?_)
  repeat'(first|(simp(disch:=first|omega|(simp only[zL];omega))only[go_sem,seval])|((with_reducible first|apply aj.pure|apply an.pure);(with_reducible exact hs);(first|rfl|simp only[go_sem])))
  cases c5:g==[]with
  | true=>
    by_cases h2:ps.length≤8
    · by_cases h3:v.length≤4000
      · refine W.oP [(1,.ptr 0 0)] [.cells [.str g,.str n,.vsl 3 x (ps.map aH),.str v] false] (.vc (by decide) ?_) (loops _ (by rw[c5];rfl) h2 h3 ⟨rfl,trivial⟩)
        repeat'(first|(simp(disch:=first|omega|(simp only[zL];omega))only[go_sem,seval,c2,c3,c4,c5])|((with_reducible first|apply aj.pure|apply an.pure);(with_reducible exact hn);(first|rfl|simp only[go_sem])))
        exact⟨rfl,trivial⟩
      · have e:cf ⟨g,n,x,ps,v⟩=false:=by rw[e0,decide_eq_false (show¬(v.length:Int)≤4000 by omega)];simp
        rw[e];refine .vc (by decide) ?_
        repeat'(first|(simp(disch:=first|omega|(simp only[zL];omega))only[go_sem,seval,c2,c3,c4,c5])|((with_reducible first|apply aj.pure|apply an.pure);(with_reducible exact hn);(first|rfl|simp only[go_sem])))
        exact⟨_,rfl,_,rfl,.refl _⟩
    · have e:cf ⟨g,n,x,ps,v⟩=false:=by rw[e0,decide_eq_false (show¬(ps.length:Int)≤8 by omega)];simp
      rw[e];refine .vc (by decide) ?_
      repeat'(first|(simp(disch:=first|omega|(simp only[zL];omega))only[go_sem,seval,c2,c3,c4,c5])|((with_reducible first|apply aj.pure|apply an.pure);(with_reducible exact hn);(first|rfl|simp only[go_sem])))
      exact⟨_,rfl,_,rfl,.refl _⟩
  | false =>
    cases c6:dz g with
    | false=>
      have e:cf ⟨g,n,x,ps,v⟩=false:=by rw[e0,c5,c6];rfl
      rw[e];rw[c6]at hg;refine .vc (by decide) ?_
      repeat'(first|(simp(disch:=first|omega|(simp only[zL];omega))only[go_sem,seval,c2,c3,c4,c5])|((with_reducible first|apply aj.pure|apply an.pure);(with_reducible assumption);(first|rfl|simp only[go_sem])))
      exact⟨_,rfl,_,rfl,.refl _⟩
    | true=>
      rw[c6]at hg;by_cases h2:ps.length≤8
      · by_cases h3:v.length≤4000
        · refine W.oP [(1,.ptr 0 0)] [.cells [.str g,.str n,.vsl 3 x (ps.map aH),.str v] false] (.vc (by decide) ?_) (loops _ (by rw[c6];simp) h2 h3 ⟨rfl,trivial⟩)
          repeat'(first|(simp(disch:=first|omega|(simp only[zL];omega))only[go_sem,seval,c2,c3,c4,c5])|((with_reducible first|apply aj.pure|apply an.pure);(with_reducible assumption);(first|rfl|simp only[go_sem])))
          exact⟨rfl,trivial⟩
        · have e:cf ⟨g,n,x,ps,v⟩=false:=by rw[e0,decide_eq_false (show¬(v.length:Int)≤4000 by omega)];simp
          rw[e];refine .vc (by decide) ?_
          repeat'(first|(simp(disch:=first|omega|(simp only[zL];omega))only[go_sem,seval,c2,c3,c4,c5])|((with_reducible first|apply aj.pure|apply an.pure);(with_reducible assumption);(first|rfl|simp only[go_sem])))
          exact⟨_,rfl,_,rfl,.refl _⟩
      · have e:cf ⟨g,n,x,ps,v⟩=false:=by rw[e0,decide_eq_false (show¬(ps.length:Int)≤8 by omega)];simp
        rw[e];refine .vc (by decide) ?_
        repeat'(first|(simp(disch:=first|omega|(simp only[zL];omega))only[go_sem,seval,c2,c3,c4,c5])|((with_reducible first|apply aj.pure|apply an.pure);(with_reducible assumption);(first|rfl|simp only[go_sem])))
        exact⟨_,rfl,_,rfl,.refl _⟩
set_option maxRecDepth 8000 in
theorem HW (c:Cd):aa Tryz.prog 64 [aS c] (.ret (.bool (bU c))):=by
  obtain⟨ver,x,ls⟩:=c;refine aa.of Tryz.func64 rfl (ab enters Tryz.func64 rfl) (by simp[Tryz.ntmps64]) ?_;show W Tryz.prog 32 0 none _ _ _;simp only[aS];have hver:version ver=(ver==[51,46,48]||ver==[52,46,48]):=rfl
  have loops: ∀T:List (Nat×AV),version ver=true→ls.length≤100→aB T [(1,.ptr 0 0)]→
      W Tryz.prog 32 0 none (match Tryz.f64.body with|some (.seq _ (.seq _ c))=>c|_=>.skip) (fp Tryz.prog Tryz.f64.results.toList (.ret (.bool (bU ⟨ver,x,ls⟩)))) ⟨T,[.cells [.str ver,.vsl 5 x (ls.map aq)] false],[]⟩:=by
    intro T q1 q2 hT;have e0:bU ⟨ver,x,ls⟩=ls.all cf:=by simp[bU,q1,q2]
    rw[e0];refine W.bQ _ hT ?_;show W Tryz.prog 32 0 none (.seq (.seq _ _) _) _ _;refine .vc (by decide) ?_
    repeat'(first|(simp(disch:=first|omega|(simp only[zL];omega))only[go_sem,seval]))
    refine W.bh (X:=Nat) (fun i=>[(3,.int .i64 (i:Int)),(1,.ptr 0 0)]) (fun _=>[.cells [.str ver,.vsl 5 x (ls.map aq)] false]) (fun i=>i≤ls.length∧(ls.take i).all cf=true) (fun i=>ls.length - i) 0 ⟨Nat.zero_le _,by simp⟩ ⟨rfl,rfl,trivial⟩ rfl ?_;rintro i ⟨hi,hall⟩;refine .vc (by decide) ?_;by_cases h:i<ls.length
    · obtain⟨u,hu,_⟩:=drop_at h
      have hia: ∀H,ah Tryz.prog 22 (.vsl 5 x (ls.map aq)) (.int .i64 (i:Int)) H=some (.vptr [.str u.g,.str u.n,.vsl 3 u.x (u.ps.map aH),.str u.v]):=fun H=>jj (v:=aq u) (by simp[hu]) rfl H;have hpu:=HV u;simp only[aq]at hpu;cases hb:cf u with
      | false=>
        rw[hb]at hpu;rw[sJ hu hb]
        repeat'(first|(simp(disch:=first|omega|(simp only[zL];omega))only[go_sem,seval,hia])|((with_reducible first|apply aj.pure|apply an.pure);(with_reducible exact hpu);(first|rfl|simp only[go_sem,az])))
        exact⟨_,rfl,_,rfl,.refl _⟩
      | true=>
        rw[hb]at hpu
        repeat'(first|(simp(disch:=first|omega|(simp only[zL];omega))only[go_sem,seval,hia])|((with_reducible first|apply aj.pure|apply an.pure);(with_reducible exact hpu);(first|rfl|simp only[go_sem,az])))
        exact⟨i+1,⟨by omega,all_succ hu hall hb⟩,by omega,⟨rfl,rfl,trivial⟩⟩
    · have e:i=ls.length:=by omega
      subst e;rw[List.take_length]at hall;rw[hall]
      repeat'(first|(simp(disch:=first|omega|(simp only[zL];omega))only[go_sem,seval]))
      exact⟨_,rfl,_,rfl,.refl _⟩
  refine .seq (.vc (by decide) ?_)
  repeat'(first|(simp(disch:=first|omega|(simp only[zL];omega))only[go_sem,seval]))
  have early:version ver=false→bU ⟨ver,x,ls⟩=false:=fun h=>by simp[bU,h]
  by_cases h2:ls.length≤100
  · cases c1:ver==[51,46,48]with
    | true=>
      have hv:version ver=true:=by rw[hver,c1];rfl
      refine W.oP [(1,.ptr 0 0)] [.cells [.str ver,.vsl 5 x (ls.map aq)] false] (.vc (by decide) ?_) (loops _ hv h2 ⟨rfl,trivial⟩)
      repeat'(first|(simp(disch:=first|omega|(simp only[zL];omega))only[go_sem,seval,c1]))
      exact⟨rfl,trivial⟩
    | false=>
      cases c2:ver==[52,46,48]with
      | true=>
        have hv:version ver=true:=by rw[hver,c1,c2];rfl
        refine W.oP [(1,.ptr 0 0)] [.cells [.str ver,.vsl 5 x (ls.map aq)] false] (.vc (by decide) ?_) (loops _ hv h2 ⟨rfl,trivial⟩)
        repeat'(first|(simp(disch:=first|omega|(simp only[zL];omega))only[go_sem,seval,c1,c2]))
        exact⟨rfl,trivial⟩
      | false=>
        rw[early (by rw[hver,c1,c2];rfl)];refine .vc (by decide) ?_
        repeat'(first|(simp(disch:=first|omega|(simp only[zL];omega))only[go_sem,seval,c1,c2]))
        exact⟨_,rfl,_,rfl,.refl _⟩
  · have e:bU ⟨ver,x,ls⟩=false:=by simp[bU,h2]
    rw[e];refine .vc (by decide) ?_;cases c1:ver==[51,46,48]with
    | true=>
      repeat'(first|(simp(disch:=first|omega|(simp only[zL];omega))only[go_sem,seval,c1]))
      exact⟨_,rfl,_,rfl,.refl _⟩
    | false=>
      cases c2:ver==[52,46,48]with
      | true=>
        repeat'(first|(simp(disch:=first|omega|(simp only[zL];omega))only[go_sem,seval,c1,c2]))
        exact⟨_,rfl,_,rfl,.refl _⟩
      | false=>
        repeat'(first|(simp(disch:=first|omega|(simp only[zL];omega))only[go_sem,seval,c1,c2]))
        exact⟨_,rfl,_,rfl,.refl _⟩
set_option maxRecDepth 8000 in
theorem td(c:Cd):aa Tryz.prog 27 [aS c] (.ret (.int .i64 (aL c))):=by
 have hr:=HW c;have hhfs:=qZ c;cases h:bU c with
 |false=>
  have e:aL c=2:=by simp[aL,h]
  rw[h]at hr;rw[e];obtain⟨ver,x,ls⟩:=c;refine aa.of Tryz.func27 rfl (ab enters Tryz.func27 rfl) (by simp[Tryz.ntmps27]) ?_;show W Tryz.prog 10 0 none _ _ _;refine W.vc (by decide) ?_;simp only[aS]at hr hhfs ⊢
  repeat'(first|(simp(disch:=first|omega|(simp only[zL];omega))only[go_sem,seval])|((with_reducible first|apply aj.pure|apply an.pure);(with_reducible exact hr);(first|rfl|simp only[go_sem,aN])))
  exact⟨_,rfl,_,rfl,.refl _⟩
 | true=>
  rw[h]at hr;have hb:=pw h;have ht:aa Tryz.prog 65 [aS c] (.ret (.str (laid c))):=by
   have h':=h;simp only[bU,Bool.and_eq_true,decide_eq_true_eq,List.all_eq_true]at h';exact Jz c (fun l hl=>by have:=(kT (h'.2 l hl)).2;omega) hb (by omega)
  by_cases h4:(laid c).length>16000
  ·have e:aL c=3:=by simp only[aL,h,if_true,if_pos h4]
   rw[e];obtain⟨ver,x,ls⟩:=c;refine aa.of Tryz.func27 rfl (ab enters Tryz.func27 rfl) (by simp[Tryz.ntmps27]) ?_;show W Tryz.prog 10 0 none _ _ _;refine W.vc (by decide) ?_;simp only[aS]at hr hhfs ht ⊢
   repeat'(first|(simp(disch:=first|omega|(simp only[zL];omega))only[go_sem,seval])|((with_reducible first|apply aj.pure|apply an.pure);(with_reducible assumption);(first|rfl|simp only[go_sem,aN])))
   exact⟨_,rfl,_,rfl,.refl _⟩
  ·have e:aL c=0:=by simp only[aL,h,if_true,if_neg h4]
   rw[e];obtain⟨ver,x,ls⟩:=c;refine aa.of Tryz.func27 rfl (ab enters Tryz.func27 rfl) (by simp[Tryz.ntmps27]) ?_;show W Tryz.prog 10 0 none _ _ _;refine W.vc (by decide) ?_;simp only[aS]at hr hhfs ht ⊢
   repeat'(first|(simp(disch:=first|omega|(simp only[zL];omega))only[go_sem,seval])|((with_reducible first|apply aj.pure|apply an.pure);(with_reducible assumption);(first|rfl|simp only[go_sem,aN])))
   exact⟨_,rfl,_,rfl,.refl _⟩
def bu(ls:List Ln)(n:Bytes):Nat:=(ls.filter fun l=>small l.n==n).length
theorem kq{ls:List Ln}{i:Nat}{l:Ln}(h:ls[i]? =some l)(n:Bytes):bu (ls.take (i+1)) n=bu (ls.take i) n+(if small l.n==n then 1 else 0):=by
 rw[List.take_add_one,h,bu,List.filter_append,List.length_append];congr 1;simp only[Option.toList_some,List.filter_cons,List.filter_nil];split<;>simp
def xR(ls:List Ln)(f:Nat):List Bytes:=uK f (xsP ls f)
def fy(ls:List Ln)(k:Nat):Bool:=match aP[k]? with
 |some n=>decide (1<bu ls n)||(decide (k=0)&&decide (bu ls n=0))
 |none=>false
def ofR(c:Cd):(Nat→List Bytes)×Nat:=
 if aL c=0 then(if(List.range 5).all (fun k=>!fy c.ls k)&&br (xR c.ls)then(xR c.ls,0)else(pU,270))else(pU,2)
def zR(xs:Nat→List Bytes)(f:Nat):List AV:=(List.range f).map fun g=>.vsl 0 false ((xs g).map .str)
def iY(xs:Nat→List Bytes)(f:Nat)(v:AV):List AV:=zR xs f++v::List.replicate (7 - f) .nilsl
theorem jQ(xs:Nat→List Bytes)(f:Nat):(zR xs f).length=f:=by simp[zR]
theorem Cr(xs:Nat→List Bytes){f:Nat}(hf:f<8)(v:AV):(iY xs f v).length=8:=by simp[iY,jQ];omega
theorem EZ(xs:Nat→List Bytes)(f:Nat)(v:AV):(iY xs f v)[f]? =some v:=by
 rw[iY,List.getElem?_append_right (by rw[jQ];exact Nat.le_refl _),jQ,Nat.sub_self];rfl
theorem Ct(xs:Nat→List Bytes)(f:Nat)(v w:AV):(iY xs f v).set f w=iY xs f w:=by
 rw[iY,List.set_append_right _ _ (by rw[jQ];exact Nat.le_refl _),jQ,Nat.sub_self];rfl
theorem zS(xs:Nat→List Bytes){f:Nat}(hf:f<7):iY xs f (.vsl 0 false ((xs f).map .str))=iY xs (f+1) .nilsl:=by
 have e:7 - f=(7 - (f+1))+1:=by omega
 rw[iY,iY,e,List.replicate_succ,zR,zR,List.range_succ,List.map_append];simp
theorem Cu(xs:Nat→List Bytes):iY xs 7 (.vsl 0 false ((xs 7).map .str))=(bc xs).map av:=by
 simp only[iY,zR,bc,List.map_map];rfl
theorem HX{H:List OB}{b f:Nat}{xs:Nat→List Bytes}{v:AV}(h:H[b]? =some (.cells (iY xs f v) false)):al Tryz.prog 25 (.ptr b f) H=some v:=by
 simp[vX,ldC,h,EZ]
theorem Cv{H:List OB}{b f:Nat}{xs:Nat→List Bytes}{v w:AV}(h:H[b]? =some (.cells (iY xs f v) false))(hf:f<8)(hw:w.cells=[w])(hc:w.isC=true):aE Tryz.prog 25 (.ptr b f) w H=some (H.set b (.cells (iY xs f w) false)):=by
 rw[Du];simp only[stC,h,hw];rw[if_pos ⟨rfl,by rw[Cr xs hf];simp;omega,by simp[hc]⟩];simp only[cm,Ct]
theorem jk.app{H:List OB}{v:AV}{l:List Bytes}(h:jk H v l)(s:Bytes)(hl:l.length<1000000): ∃M:List OB,aG Tryz.prog 25 25 (deN v) (.vsl 0 true [.str s]) H=some (.sl H.length 0 (l.length+1) 0,M)∧M.length=H.length+1∧M[H.length]? =some (OB.cells ((l++[s]).map .str) true)∧
    ∀(j:Nat) (o:OB),H[j]? =some o→(∀cs,o≠OB.cells cs true)→M[j]? =some o:=by
  have hs:kN 0 AV.str H (deN v) l:=by
    rcases h with⟨e,rfl|rfl⟩|⟨d,rfl,hd⟩
    · exact .inl ⟨e,0,rfl⟩
    · exact .inl ⟨e,0,rfl⟩
    · exact .inr ⟨d,rfl,by rw[fY];exact hd⟩
  obtain⟨M,hap,hlen,hnew,hold⟩:=il (P:=Tryz.prog) (sT:=25) (wd:=0) (bytes:=16) Tryz.underlying25 ik AV.str (fun _=>rfl) (fun _=>rfl) (by decide) hs s true (by omega);rw[fY]at hnew;refine⟨M,hap,hlen,hnew,fun j o hj ho=> ?_⟩;rw[hold j (List.getElem?_eq_some_iff.1 hj).1 fun e=> ?_]
  · exact hj
  · rcases h with⟨_,rfl|rfl⟩|⟨d,rfl,hd⟩
    · cases e
    · cases e
    · cases e
      rw[hj]at hd;exact ho _ (Option.some.inj hd)
noncomputable def JZ:Code:=match Tryz.f16.body with
 |some (.seq _ (.seq _ (.seq _ (.seq _ (.seq (.seq _ (.block _ (.loop c))) _)))))=>c
 |_=>.skip
noncomputable def J0:Code:=match Tryz.f16.body with
 |some (.seq _ (.seq _ (.seq _ (.seq _ (.seq _ (.seq (.seq _ (.block _ (.loop c))) _))))))=>c
 |_=>.skip
set_option maxRecDepth 8000 in
theorem J1 {ver:Bytes} {fx:Bool} {ls:List Ln} {Q:Ex→St→Prop} {a:St} (hn:ls.length≤1000) (hnm: ∀l∈ls,l.n.length≤1000000) (hT:aB a.T [(6,.int .i64 ((0:Nat):Int)),(5,.vsl 0 true (aP.map .str)),(1,.ptr 0 0),(2,.ptr 1 0),(4,.ptr 2 0)])
    (hH:a.H=[.cells [.str ver,.vsl 5 fx (ls.map aq)] false,.cells bK false,.cells bK false]) (hD:a.D=[])
    (h1:(List.range 5).all (fun k=> !fy ls k)=true→ ∀T,aB T [(1,.ptr 0 0),(2,.ptr 1 0),(4,.ptr 2 0)]→Q .normal ⟨T,[.cells [.str ver,.vsl 5 fx (ls.map aq)] false,.cells bK false,.cells bK false],[]⟩)
    (h2:(List.range 5).all (fun k=> !fy ls k)=false→ ∀T,Av.get T 2=.ptr 1 0→Av.get T 3=.int .i64 270→Q .ret ⟨T,[.cells [.str ver,.vsl 5 fx (ls.map aq)] false,.cells bK false,.cells bK false],[]⟩):
    W Tryz.prog 94 0 none (.loop JZ) (bl 0 Q) a:=by
  obtain⟨L,hL⟩: ∃L,L=ls.map aq:=⟨_,rfl⟩
  have hLl:L.length=ls.length:=by rw[hL];simp
  rw[←hL]at hH h1 h2;have hln5: ∀X,aI Tryz.prog 25 (.vsl 0 true (aP.map .str)) X=some (.int .i64 5):=by intro X;simp[aI,Tryz.underlying25,aP]
  have hlnL: ∀X,aI Tryz.prog 22 (.vsl 5 fx L) X=some (.int .i64 ls.length):=by intro X;simp[aI,Tryz.underlying22,hLl]
  have hst8: ∀A B,aE Tryz.prog 27 (.ptr 1 0) (.agg bK) [A,.cells bK false,B]=some [A,.cells bK false,B]:=fun A B=>dZ (vs:=bK) (us:=bK) rfl rfl rfl rfl rfl;have hld8: ∀A B C,al Tryz.prog 22 (.ptr 0 1) [.cells [A,.vsl 5 fx L] false,B,C]=some (.vsl 5 fx L):=fun A B C=>by simp[kA,ldC]
  generalize hN8:bK=N8 at*;generalize hB0:cB Tryz.prog 27 []=B0;have hB0':B0=some (.agg N8):=by rw[←hB0,←hN8];exact bd8
  subst hB0';refine W.bh (X:=Nat) (fun k=>[(6,.int .i64 (k:Int)),(5,.vsl 0 true (aP.map .str)),(1,.ptr 0 0),(2,.ptr 1 0),(4,.ptr 2 0)]) (fun _=>[.cells [.str ver,.vsl 5 fx L] false,.cells N8 false,.cells N8 false]) (fun k=>k≤5∧(List.range k).all (fun k=> !fy ls k)=true) (fun k=>5 - k) 0 ⟨Nat.zero_le _,rfl⟩ hT hH ?_;rintro k ⟨hk,hall⟩;show W Tryz.prog 94 0 none (.seq (.seq (.region 6 _ _) _) (.seq (.block 1 (.seq (.region 8 _ _) _)) _)) _ _;by_cases h:k<5
  · obtain ⟨n,hn5,_⟩:=drop_at (show k<aP.length from h)
    have hbk:fy ls k=(decide (1<bu ls n)||(decide (k=0)&&decide (bu ls n=0))):=by unfold fy;rw[hn5]
    have hia: ∀X,ah Tryz.prog 25 (.vsl 0 true (aP.map .str)) (.int .i64 (k:Int)) X=some (.vptr [.str n]):=fun X=>dW (v:=.str n) (by simp[hn5]) rfl X;rw[hD];refine .vc (by decide) ?_
    repeat'(first|(simp(disch:=first|omega|(simp only[zL];omega))only[go_sem,seval,hln5]))
    refine W.bh (X:=Nat) (fun i=>[(8,.int .i64 (i:Int)),(7,.int .i64 (bu (ls.take i) n:Nat)),(6,.int .i64 (k:Int)),(5,.vsl 0 true (aP.map .str)),(1,.ptr 0 0),(2,.ptr 1 0),(4,.ptr 2 0)]) (fun _=>[.cells [.str ver,.vsl 5 fx L] false,.cells N8 false,.cells N8 false]) (fun i=>i≤ls.length) (fun i=>ls.length - i) 0 (Nat.zero_le _) ⟨rfl,rfl,rfl,rfl,rfl,rfl,rfl,trivial⟩ rfl ?_;intro i hi;by_cases h3:i<ls.length
    · obtain⟨l,hl,_⟩:=drop_at h3
      have hil: ∀X,ah Tryz.prog 22 (.vsl 5 fx L) (.int .i64 (i:Int)) X=some (.vptr [.str l.g,.str l.n,.vsl 3 l.x (l.ps.map aH),.str l.v]):=fun X=>jj (v:=aq l) (by rw[hL];simp[hl]) rfl X;have hnr:=fq l n (hnm l (List.mem_of_getElem? hl));have hct:=kq hl n;have hcl:bu (ls.take i) n≤1000:=by have:=List.length_filter_le (fun l:Ln=>small l.n==n) (ls.take i);unfold bu;simp at this ⊢;omega
      rw[mr]at hnr;have hrh:=az l.ps;generalize l.ps.map aH=P at*;cases hq:(small l.n==n)with
      | true=>
        rw[hq]at hnr hct;rw[if_pos rfl]at hct;refine .vc (by decide) ?_
        repeat'(first|(simp(disch:=first|omega|(simp only[zL];omega))only[go_sem,seval,hlnL,hld8]))
        refine W.aO [] [false,false,false,false,false,false,false,false,false,false] [] mixed (by kernel_rfl) (by kernel_rfl) (by kernel_rfl) ?_
        repeat'(first|(simp(disch:=first|omega|(simp only[zL];omega))only[go_sem,seval,hlnL,hld8,hil,hia])|((with_reducible first|apply aj.pure|apply an.pure);(with_reducible exact hnr);(first|rfl|simp only[go_sem,hrh])))
        exact⟨i+1,h3,by omega,rfl,by rw[hct];rfl,rfl,rfl,rfl,rfl,rfl,trivial⟩
      | false=>
        rw[hq]at hnr hct;rw[if_neg (by simp),Nat.add_zero]at hct;refine .vc (by decide) ?_
        repeat'(first|(simp(disch:=first|omega|(simp only[zL];omega))only[go_sem,seval,hlnL,hld8]))
        refine W.aO [] [false,false,false,false,false,false,false,false,false,false] [] mixed (by kernel_rfl) (by kernel_rfl) (by kernel_rfl) ?_
        repeat'(first|(simp(disch:=first|omega|(simp only[zL];omega))only[go_sem,seval,hlnL,hld8,hil,hia])|((with_reducible first|apply aj.pure|apply an.pure);(with_reducible exact hnr);(first|rfl|simp only[go_sem,hrh])))
        exact⟨i+1,h3,by omega,rfl,by rw[hct];rfl,rfl,rfl,rfl,rfl,rfl,trivial⟩
    · have e:i=ls.length:=by omega
      subst e;rw[List.take_length];have hnext:(List.range (k+1)).all (fun k=> !fy ls k)= !fy ls k:=by rw[List.range_succ,List.all_append,hall];simp
      have hbad:fy ls k=true→(List.range 5).all (fun k=> !fy ls k)=false:=fun hb=>by
        rw[List.all_eq_false];exact⟨k,List.mem_range.2 h,by simp[hb]⟩
      generalize hcn:bu ls n=cn at*;rcases Nat.lt_or_ge 1 cn with hc|hc
      · have hb:fy ls k=true:=by rw[hbk];simp[hc]
        refine .vc (by decide) ?_
        repeat'(first|(simp(disch:=first|omega|(simp only[zL];omega))only[go_sem,seval,hlnL,hld8,hB0,hst8]))
        exact h2 (hbad hb) _ rfl rfl
      · by_cases hk0:k=0
        · subst hk0
          by_cases hz:cn=0
          · have hb:fy ls 0=true:=by rw[hbk];simp[hz]
            subst hz;refine .vc (by decide) ?_
            repeat'(first|(simp(disch:=first|omega|(simp only[zL];omega))only[go_sem,seval,hlnL,hld8,hB0,hst8]))
            exact h2 (hbad hb) _ rfl rfl
          · have hb:fy ls 0=false:=by rw[hbk];simp;omega
            refine .vc (by decide) ?_
            repeat'(first|(simp(disch:=first|omega|(simp only[zL];omega))only[go_sem,seval,hlnL,hld8,hB0,hst8]))
            exact⟨0+1,⟨by omega,by rw[hnext,hb];rfl⟩,by omega,rfl,rfl,rfl,rfl,rfl,trivial⟩
        · have hb:fy ls k=false:=by rw[hbk];simp;omega
          refine .vc (by decide) ?_
          repeat'(first|(simp(disch:=first|omega|(simp only[zL];omega))only[go_sem,seval,hlnL,hld8,hB0,hst8]))
          exact⟨k+1,⟨h,by rw[hnext,hb];rfl⟩,by omega,rfl,rfl,rfl,rfl,rfl,trivial⟩
  · have e:k=5:=by omega
    subst e;rw[hD];refine .vc (by decide) ?_
    repeat'(first|(simp(disch:=first|omega|(simp only[zL];omega))only[go_sem,seval,hln5]))
    refine h1 hall _ ?_;exact⟨rfl,rfl,rfl,trivial⟩
theorem zT{H:List OB}{v:AV}{l:List Bytes}(f:Nat)(h:jk H v l):∃u S,[.int .i64 (f:Int),v].mapM (fz (bH S 0 H) 20)=some [.int .i64 (f:Int),u]∧Le u (.vsl 0 false (l.map .str))∧∀j,j∈S→∃n,v=.sl j 0 n 0:=by
 obtain⟨u,S,h1,h2,h3⟩:=uT h;refine⟨u,S,?_,h2,h3⟩;have:fz (bH S 0 H) 20 v=some u:=by
  simp only[List.mapM_cons,List.mapM_nil]at h1;cases hz:fz (bH S 0 H) 20 v with
  |none=>rw[hz]at h1;simp at h1
  |some w=>rw[hz]at h1;simp at h1;rw[h1]
 simp only[List.mapM_cons,List.mapM_nil,this,cJ (show AV.hf (.int .i64 (f:Int))=true from rfl)];rfl
def E4(xs:Nat→List Bytes)(f:Nat):List AV:=if f<8 then iY xs f .nilsl else(bc xs).map av
theorem zU(xs:Nat→List Bytes){f:Nat}(hf:f<8):iY xs f (.vsl 0 false ((xs f).map .str))=E4 xs (f+1):=by
 unfold E4;by_cases h:f+1<8
 ·rw[if_pos h,zS xs (by omega)]
 ·have e:f=7:=by omega
  subst e;rw[if_neg (by omega),Cu]
set_option maxRecDepth 8000 in
theorem J2 {ver:Bytes} {fx:Bool} {ls:List Ln} {Q:Ex→St→Prop} {a:St} (hn:ls.length≤1000) (hnm: ∀l∈ls,l.n.length≤1000000) (hvm: ∀l∈ls,l.v.length≤1000000) (hT:aB a.T [(9,.int .i64 ((0:Nat):Int)),(1,.ptr 0 0),(2,.ptr 1 0),(4,.ptr 2 0)])
    (hH:a.H=[.cells [.str ver,.vsl 5 fx (ls.map aq)] false,.cells bK false,.cells bK false]) (hD:a.D=[])
    (h1: ∀T H,aB T [(2,.ptr 1 0),(4,.ptr 2 0)]→H[1]? =some (.cells bK false)→H[2]? =some (.cells ((bc (xR ls)).map av) false)→Q .normal ⟨T,H,[]⟩):
    W Tryz.prog 94 0 none (.loop J0) (bl 4 Q) a:=by
  obtain⟨L,hL⟩: ∃L,L=ls.map aq:=⟨_,rfl⟩
  have hLl:L.length=ls.length:=by rw[hL];simp
  rw[←hL]at hH;have hlnL: ∀X,aI Tryz.prog 22 (.vsl 5 fx L) X=some (.int .i64 ls.length):=by intro X;simp[aI,Tryz.underlying22,hLl]
  refine W.loop (X:=Nat) (fun f a=>aB a.T [(9,.int .i64 (f:Int)),(1,.ptr 0 0),(2,.ptr 1 0),(4,.ptr 2 0)]∧a.H[0]? =some (.cells [.str ver,.vsl 5 fx L] false)∧a.H[1]? =some (.cells bK false)∧a.H[2]? =some (.cells (E4 (xR ls) f) false)∧a.D=[]∧f≤8) (fun f=>8 - f) 0
    ⟨hT,by rw[hH];rfl,by rw[hH];rfl,by rw[hH];rfl,hD,Nat.zero_le _⟩ ?_
  clear hT hH hD a;rintro f ⟨T,H,D⟩ ⟨hT,g0,g1,g2,rfl,hf⟩;simp only at hT g0 g1 g2;refine W.bQ _ hT ?_;show W Tryz.prog 94 0 none (.seq (.seq (.region 17 _ _) _) (.seq (.block 5 (.seq (.seq (.region 19 _ _) _) _)) _)) _ _;by_cases h:f<8
  · have hic:=eG 2 f h
    rw[E4,if_pos h]at g2;refine .vc (by decide) ?_
    repeat'(first|(simp(disch:=first|omega|(simp only[zL];omega))only[go_sem,seval]))
    refine W.loop (X:=Nat) (fun i a=> ∃v,aB a.T [(10,.int .i64 (i:Int)),(9,.int .i64 (f:Int)),(1,.ptr 0 0),(2,.ptr 1 0),(4,.ptr 2 0)]∧a.H[0]? =some (.cells [.str ver,.vsl 5 fx L] false)∧a.H[1]? =some (.cells bK false)∧a.H[2]? =some (.cells (iY (xR ls) f v) false)∧jk a.H v (xsP (ls.take i) f)∧a.D=[]∧i≤ls.length) (fun i=>ls.length - i) 0
      ⟨.nilsl,⟨rfl,rfl,rfl,rfl,rfl,trivial⟩,g0,g1,g2,.inl ⟨by rw[List.take_zero];rfl,.inl rfl⟩,rfl,Nat.zero_le _⟩ ?_
    clear g0 g1 g2 hT H T;rintro i ⟨T,H,D⟩ ⟨v,hT,g0,g1,g2,ho,rfl,hi⟩;simp only at hT g0 g1 g2 ho;refine W.bQ _ hT ?_;have hld8:al Tryz.prog 22 (.ptr 0 1) H=some (.vsl 5 fx L):=by simp[kA,ldC,g0]
    have hldr:=HX g2;have hxl:=oj (ls.take i) f;by_cases h3:i<ls.length
    · obtain⟨l,hl,_⟩:=drop_at h3
      have hil: ∀X,ah Tryz.prog 22 (.vsl 5 fx L) (.int .i64 (i:Int)) X=some (.vptr [.str l.g,.str l.n,.vsl 3 l.x (l.ps.map aH),.str l.v]):=fun X=>jj (v:=aq l) (by rw[hL];simp[hl]) rfl X;have hsy:=yf l f h (hnm l (List.mem_of_getElem? hl)) (hvm l (List.mem_of_getElem? hl));have hxt:=mw hl f;rw[mr]at hsy;have hrh:=az l.ps;generalize l.ps.map aH=P at*;generalize hs0:aK l f=s at*;by_cases hs:s=[]
      · have hsb:(s==([]:Bytes))=true:=by simp[hs]
        rw[show nz s=[]from if_pos hs,List.append_nil]at hxt;refine .vc (by decide) ?_
        repeat'(first|(simp(disch:=first|omega|(simp only[zL];omega))only[go_sem,seval,hlnL,hld8,hil,hsb])|((with_reducible first|apply aj.pure|apply an.pure);(with_reducible exact hsy);(first|rfl|simp only[go_sem,hrh])))
        exact⟨i+1,⟨v,⟨rfl,rfl,rfl,rfl,rfl,trivial⟩,g0,g1,g2,by rw[hxt];exact ho,h3⟩,by omega⟩
      · have hsb:(s==([]:Bytes))=false:=by simp[hs]
        rw[show nz s=[s]from if_neg hs]at hxt;obtain⟨M,hap,hlen,hnew,hk⟩:=ho.app s (by simp at hxl;omega);have q2:=hk 2 _ g2 (fun cs e=>by cases e);have hst:=Cv (w:=.sl H.length 0 ((xsP (ls.take i) f).length+1) 0) q2 h rfl rfl;have l2:=(List.getElem?_eq_some_iff.1 g2).1;have hde:deN (AV.sl H.length 0 ((xsP (ls.take i) f).length+1) 0)=.sl H.length 0 ((xsP (ls.take i) f).length+1) 0:=rfl;refine .vc (by decide) ?_
        repeat'(first|(simp(disch:=first|omega|(simp only[zL];omega))only[go_sem,seval,hlnL,hld8,hil,hsb,hic,hldr,kU,hap,hst])|((with_reducible first|apply aj.pure|apply an.pure);(with_reducible exact hsy);(first|rfl|simp only[go_sem,hrh])))
        refine⟨i+1,⟨.sl H.length 0 ((xsP (ls.take i) f).length+1) 0,⟨rfl,rfl,rfl,rfl,rfl,trivial⟩,?_,?_,?_,?_,h3⟩,by omega⟩
        · rw[List.getElem?_set_ne (by omega)];exact hk 0 _ g0 (fun cs e=>by cases e)
        · rw[List.getElem?_set_ne (by omega)];exact hk 1 _ g1 (fun cs e=>by cases e)
        · rw[List.getElem?_set_self (by omega)]
        · exact .inr ⟨H.length,by rw[hxt];simp,by rw[List.getElem?_set_ne (by omega),hxt];exact hnew⟩
    · have e:i=ls.length:=by omega
      subst e;rw[List.take_length]at ho hxl;obtain⟨u,S,hgv,hle,hS⟩:=zT f ho;have hor:=aa.le (.cons _ _ _ _ (.refl _) (.cons _ _ _ _ hle .nil)) (BS f h false (xsP ls f) (by omega));have hk: ∀(j:Nat) (o:OB),H[j]? =some o→(∀cs,o≠OB.cells cs true)→(cy S 0 H)[j]? =some o:=fun j o hj hno=>by
        rw[iA]
        · exact hj
        · intro hm
          obtain⟨n,e⟩:=hS j hm;rcases ho with⟨_,e2|e2⟩|⟨d,e2,hd⟩
          · rw[e]at e2;cases e2
          · rw[e]at e2;cases e2
          · rw[e]at e2;cases e2;rw[hj]at hd;exact hno _ (Option.some.inj hd)
      have q2:=hk 2 _ g2 (fun cs e=>by cases e);have l2:=(List.getElem?_eq_some_iff.1 q2).1;have hst:=Cv (w:=.vsl 0 false ((uK f (xsP ls f)).map .str)) q2 h rfl rfl;rw[show uK f (xsP ls f)=xR ls f from rfl,zU _ h]at hst;rw[show uK f (xsP ls f)=xR ls f from rfl]at hor;have q0:=hk 0 _ g0 (fun cs e=>by cases e);have q1:=hk 1 _ g1 (fun cs e=>by cases e);refine .vc (by decide) ?_
      repeat'(first|(simp(disch:=first|omega|(simp only[zL];omega))only[go_sem,seval,hlnL,hld8,hic,hldr,hst])|(guard_target=~ aj _ _ _ _ _ _ _;refine aj.vT S _ hor hgv ?_))
      refine⟨f+1,⟨⟨rfl,rfl,rfl,rfl,trivial⟩,?_,?_,?_,h⟩,by omega⟩
      · rw[List.getElem?_set_ne (by omega)];exact q0
      · rw[List.getElem?_set_ne (by omega)];exact q1
      · rw[List.getElem?_set_self l2]
  · have e:f=8:=by omega
    subst e;refine .vc (by decide) ?_
    repeat'(first|(simp(disch:=first|omega|(simp only[zL];omega))only[go_sem,seval]))
    refine h1 _ _ ?_ g1 g2;exact⟨rfl,rfl,trivial⟩
theorem mA{rs:List ResultVar}{T:List (Nat×AV)}{K:List OB}{xs:Nat→List Bytes}{vs:List AV}{e:Int}(hr:rs=[.cell 2 27,.tmp 3])(hb:K[1]? =some (.cells vs false))(hv:vs=bK∧xs=pU∨vs=(bc xs).map av)(h2:Av.get T 2=.ptr 1 0)(h3:Av.get T 3=.int .i64 e):
    fp Tryz.prog rs (.ret (.tup [.agg ((bc xs).map av),.int .i64 e])) .ret ⟨T,K,[]⟩:=by
  rcases hv with⟨rfl,rfl⟩|rfl
  · exact om hr (bE.none hb) h2 h3 (.inl rfl)
  · subst hr
    refine ui (a1:=⟨T,K,[]⟩) (v:=.tup [.agg ((bc xs).map av),.int .i64 e]) rfl (pb 2 27 3 ?_ h3) (cJ (by simp[AV.hf,AV.hfs,aJ])) (.refl _);simp only[h2];exact fu hb (bM xs)
set_option maxRecDepth 100000 in
theorem J3(c:Cd):aa Tryz.prog 16 [aS c] (.ret (.tup [.agg ((bc (ofR c).1).map av),.int .i64 ((ofR c).2:Nat)])):=by
 have hck:=td c;have hc0:=fun h=>ey (c:=c) h;have ho:ofR c=if aL c=0 then(if(List.range 5).all (fun k=>!fy c.ls k)&&br (xR c.ls)then(xR c.ls,0)else(pU,270))else(pU,2):=rfl
 obtain⟨ver,fx,ls⟩:=c;have hLh:=aN ls;simp only[aS]at hck ho hc0 ⊢;generalize ofR ⟨ver,fx,ls⟩=r at*;refine aa.of Tryz.func16 rfl (ab enters Tryz.func16 rfl) (by simp[Tryz.ntmps16]) ?_;show W Tryz.prog 94 0 none (.seq (.region 0 _ _) (.seq (.seq (.region 1 _ _) _) (.seq (.region 3 _ _) (.seq (.region 4 _ _) (.seq (.seq (.region 5 _ _) (.block 0 (.loop JZ))) (.seq (.seq (.region 16 _ _) (.block 4 (.loop J0))) _)))))) _ _;have hst8:∀A,aE Tryz.prog 27 (.ptr 1 0) (.agg bK) [A,.cells bK false]=some [A,.cells bK false]:=fun A=>dZ (vs:=bK) (us:=bK) rfl rfl rfl rfl rfl
 have hst9:∀A B,aE Tryz.prog 27 (.ptr 2 0) (.agg bK) [A,B,.cells bK false]=some [A,B,.cells bK false]:=fun A B=>dZ (vs:=bK) (us:=bK) rfl rfl rfl rfl rfl;have hz8:bZ Tryz.prog 27=some (.agg bK):=FK;have hb5:aw Tryz.prog 25 5 [(0,.str [102,110]),(1,.str [110]),(2,.str [111,114,103]),(3,.str [116,105,116,108,101]),(4,.str [110,111,116,101])]=some (.vsl 0 true (aP.map .str)):=by kernel_rfl
 refine .seq (.vc (by decide) ?_)
 repeat'(first|(simp(disch:=first|omega|(simp only[zL];omega))only[go_sem,seval,hz8]))
 by_cases h0:aL ⟨ver,fx,ls⟩=0
 case neg=>
  rw[if_neg h0]at ho;subst ho;have hb:((aL ⟨ver,fx,ls⟩:Nat):Int)≠0:=by omega
  refine .seq (.vc (by decide) ?_)
  repeat'(first|(simp(disch:=first|omega|(simp only[zL];omega))only[go_sem,seval,bd8,hst8,hb])|((with_reducible first|apply aj.pure|apply an.pure);(with_reducible exact hck);(first|rfl|simp only[go_sem,hLh])))
  exact mA (vs:=bK) rfl rfl (.inl ⟨rfl,rfl⟩) rfl rfl
 rw[if_pos h0]at ho;rw[h0]at hck;obtain⟨hn1,hv1⟩:=hc0 h0;refine .seq (.vc (by decide) ?_)
 repeat'(first|(simp(disch:=first|omega|(simp only[zL];omega))only[go_sem,seval])|((with_reducible first|apply aj.pure|apply an.pure);(with_reducible exact hck);(first|rfl|simp only[go_sem,hLh])))
 refine .seq (.vc (by decide) ?_)
 repeat'(first|(simp(disch:=first|omega|(simp only[zL];omega))only[go_sem,seval,hz8,bd8,hst9]))
 refine .seq (.vc (by decide) ?_)
 repeat'(first|(simp(disch:=first|omega|(simp only[zL];omega))only[go_sem,seval,hb5]))
 refine .seq (.vc (by decide) ?_)
 repeat'(first|(simp(disch:=first|omega|(simp only[zL];omega))only[go_sem,seval]))
 refine J1 (by omega) (fun l hl=>by have:=(hv1 l hl).2;omega) ⟨rfl,rfl,rfl,rfl,rfl,trivial⟩ rfl rfl (fun hall T hT=>?_) (fun hall T h2 h3=>?_)
 case refine_2=>
  rw[hall,Bool.false_and,if_neg (by simp)]at ho;subst ho;exact mA (vs:=bK) rfl rfl (.inl ⟨rfl,rfl⟩) h2 h3
 rw[hall,Bool.true_and]at ho;simp only[ak];refine W.bQ _ hT ?_;refine .seq (.vc (by decide) ?_)
 repeat'(first|(simp(disch:=first|omega|(simp only[zL];omega))only[go_sem,seval]))
 refine J2 (by omega) (fun l hl=>by have:=(hv1 l hl).2;omega) (fun l hl=>by have:=(hv1 l hl).1;omega) ⟨rfl,rfl,rfl,rfl,trivial⟩ rfl rfl (fun T H hT g1 g2=>?_);simp only[ak];refine W.bQ _ hT ?_;have hr16:=pG (bc (xR ls)) (bM _);rw[jM (x:=ar (bc (xR ls))) (y:=xR ls) fun f hf=>ix _ hf]at hr16;have q1:=fu g2 (bM (xR ls));have hch:=aJ (bc (xR ls));have hlen:((bc (xR ls)).map av).length=8:=by rw[List.length_map,bM]
 have q2:=dZ (vs:=bK) (us:=bK) g1 rfl rfl rfl rfl;have q3:=dZ (vs:=bK) (us:=(bc (xR ls)).map av) g1 rfl hlen (fo _) rfl;have l1:=(List.getElem?_eq_some_iff.1 g1).1;show W Tryz.prog 94 0 none (.seq (.seq (.region 26 _ _) _) (.seq (.region 28 _ _) _)) _ _;cases hk:br (xR ls)with
 |true=>
  rw[hk]at hr16 ho;simp only[if_true]at ho;subst ho;refine .vc (by decide) ?_
  repeat'(first|(simp(disch:=first|omega|(simp only[zL];omega))only[go_sem,seval,q1,q3])|((with_reducible first|apply aj.pure|apply an.pure);(with_reducible exact hr16);(first|rfl|simp only[go_sem,hch])))
  refine mA (vs:=(bc (xR ls)).map av) rfl ?_ (.inr rfl) rfl rfl;rw[List.getElem?_set_self l1]
 |false=>
  rw[hk]at hr16 ho;simp only[Bool.false_eq_true,if_false]at ho;subst ho;refine .vc (by decide) ?_
  repeat'(first|(simp(disch:=first|omega|(simp only[zL];omega))only[go_sem,seval,q1,q2,bd8])|((with_reducible first|apply aj.pure|apply an.pure);(with_reducible exact hr16);(first|rfl|simp only[go_sem,hch])))
  refine mA (vs:=bK) rfl ?_ (.inl ⟨rfl,rfl⟩) rfl rfl;rw[List.getElem?_set_self l1]
/-! ### Plain -/
theorem zV{s:Bytes}:esc s=[]↔s=[]:=by
 cases s with
 |nil=>simp[esc]
 | cons x t=>
  have:=(uD x).1;constructor
  ·intro h
   have h2:=congrArg List.length h;rw[ir,List.length_append,List.length_nil]at h2;omega
  ·intro h;cases h
theorem eS:∀(s:Bytes) (b:Bool) (cur:Bytes),Lib.join (aQ 59 b cur s) [59]=cur++s
 | [],b,cur=>by rw[eQ];simp[Lib.join,List.intercalate]
 |x::t,true,cur=>by rw[aQ,eS t false (cur++[x])];simp
 | x::t,false,cur=>by
  rw[aQ];split
  ·rw[eS t true (cur++[x])];simp
  ·split
   ·rename_i h
    have ih:=eS t false [];have hne:=eR 59 t false [];cases hp:aQ 59 false [] t with
    |nil=>exact(hne hp).elim
    |cons a l=>rw[hp]at ih;rw[dy,ih,h];simp
   ·rw[eS t false (cur++[x])];simp
theorem qe(s:Bytes):∀a b:List Bytes,(Lib.join b s).length≤(Lib.join (a++b) s).length
 | [],b=>Nat.le_refl _
 | [u],[]=>by simp[Lib.join,List.intercalate]
 | [u],v::b=>by rw[show [u]++v::b=u::v::b from rfl,dy];simp;omega
 |u::v::t,b=>by
  have:=qe s (v::t) b;rw[show u::v::t++b=u::v::(t++b)from rfl,dy];rw[show v::t++b=v::(t++b)from rfl]at this;simp;omega
theorem qf(s:Bytes):∀a b:List Bytes,(Lib.join (a++b) s).length≤(Lib.join a s).length+s.length+(Lib.join b s).length
 | [],b=>by simp
 | [u],[]=>by simp;omega
 | [u],v::b=>by rw[show [u]++v::b=u::v::b from rfl,dy];simp[Lib.join,List.intercalate];omega
 |u::v::t,b=>by
  have:=qf s (v::t) b;rw[show u::v::t++b=u::v::(t++b)from rfl,dy,dy];rw[show v::t++b=v::(t++b)from rfl]at this;simp at this ⊢;omega
theorem vg{ws:List Bytes}{v:Bytes}(hw:ws.length≤2)(hb:∀w∈ws,w.length≤1000000)(hv:v.length≤1000000):(Lib.join (bz ws (aY 59 v)) [59]).length≤50000000:=by
 have h1:=qf [59] (ws.map esc) ((aY 59 v).drop ws.length);have h2:=qe [59] ((aY 59 v).take ws.length) ((aY 59 v).drop ws.length);rw[List.take_append_drop,show aY 59 v=aQ 59 false [] v from rfl,eS v false [],List.nil_append]at h2;have h3:=iz [59] (ws.map esc)
 have h4:=iy (l:=ws.map esc) (b:=2000000) (by
  intro p hp;obtain⟨w,hw1,rfl⟩:=List.mem_map.1 hp;have:=gD w;have:=hb w hw1;omega)
 simp only[List.length_map,List.length_cons,List.length_nil]at h1 h3 h4;unfold bz;unfold aY at*;omega
def lnC(x:List Val)(l:Ln):Ln×Bool:=match aD (small l.n)with
 |none=>(l,true)
 |some k=>cK l k x
theorem Cw{l:Ln}{f:Nat}(x:List Val)(h:aD (small l.n)=some ⟨[f],false,false⟩):lnC x l=if aK l f=hdB (ar x f)then(l,true)else({l with v:=esc (hdB (ar x f))},!(hdB (ar x f)==[])):=by
 have hs:=dw (n:=0) h rfl;have hv:ba ⟨[f],false,false⟩ l.v=[aK l f]:=by
  have hl:(ba ⟨[f],false,false⟩ l.v).length=1:=by simp[ba]
  obtain⟨a,ha⟩:=List.length_eq_one_iff.1 hl;rw[ha]at hs ⊢;simpa using hs
 unfold lnC;rw[h];simp only[cK,Bool.false_eq_true,if_false,hv,bw,List.map_cons,List.map_nil];by_cases he:aK l f=hdB (ar x f)
 ·rw[if_pos he,if_pos (by rw[he])]
 ·rw[if_neg he,if_neg (by simpa using he)]
  have hm:bz [hdB (ar x f)] (dn ⟨[f],false,false⟩ l.v)=[esc (hdB (ar x f))]:=by simp[bz,dn]
  rw[hm];have:(esc (hdB (ar x f))==[])=(hdB (ar x f)==[]):=by
   rw[Bool.eq_iff_iff];simp[zV]
  simp[Lib.join,List.intercalate,this]
def gb:List Bytes:=[nFN,[],[],[],bg,bx]
theorem xa{i:Nat}{s:Bytes}(h:gb[i]? =some s)(hs:s≠ []):aD s=some ⟨[i],false,false⟩:=by
 match i,h with
 |0,h=>cases h;rfl
 |1,h=>cases h;exact(hs rfl).elim
 |2,h=>cases h;exact(hs rfl).elim
 |3,h=>cases h;exact(hs rfl).elim
 |4,h=>cases h;rfl
 |5,h=>cases h;rfl
 |i+6,h=>simp[gb]at h
theorem xb(x:Bool)(l:List Bytes)(s:Bytes):aa Tryz.prog 80 [.vsl 0 x (l.map .str),.str s] (.ret (.bool (inB s l))):=by
 have h:=Hr x l s;have e:decide (s∈l)=inB s l:=by unfold inB;by_cases q:s∈l<;>simp[q]
 rwa[e]at h
theorem vh(l:List Bytes):(l.any fun p=>!(p==[]))= !(l.flatten==[]):=by
 induction l with
 |nil=>rfl
 |cons a l ih=>
  rw[List.any_cons,ih];cases a<;>simp
/-! ### The walk -/
noncomputable def J4:Code:=match Tryz.f67.body with
 |some (.seq _ (.seq _ (.seq (.seq _ (.block _ (.loop c))) _)))=>c
 |_=>.skip
noncomputable def J5:Code:=match Tryz.f67.body with
 |some (.seq _ (.seq _ (.seq (.seq _ (.block _ (.loop _))) r)))=>r
 |_=>.skip
theorem HY{rs:List ResultVar}{T:List (Nat×AV)}{A B:OB}{l:Ln}{b:Bool}(hr:rs=[.cell 4 46,.tmp 5])(h4:Av.get T 4=.ptr 2 0)(h5:Av.get T 5=.bool b):
    fp Tryz.prog rs (.ret (.tup [aq l,.bool b])) .ret ⟨T,[A,B,.cells [.str l.g,.str l.n,.vsl 3 l.x (l.ps.map aH),.str l.v] false],[]⟩:=by
  subst hr;refine ui (a1:=⟨T,_,[]⟩) (v:=.tup [aq l,.bool b]) rfl (pb 4 46 5 ?_ h5) (cJ (by simp[AV.hf,AV.hfs,uB])) (.refl _);simp only[h4];exact zLn _ _ _ _ _ _ _
set_option maxRecDepth 8000 in
theorem Cx {l:Ln} {x:List Val} {Q:Ex→St→Prop} {a:St} (hx:x.length=8) (hm:l.n.length≤1000000) (hv:l.v.length≤1000000) (hcb: ∀f,f<8→ ∀s∈ar x f,s.length≤1000000) (hT:aB a.T [(7,.int .i64 ((0:Nat):Int)),(6,.vsl 0 true (gb.map .str)),(2,.ptr 0 0),(3,.ptr 1 0),(4,.ptr 2 0)])
    (hH:a.H=[.cells [.str l.g,.str l.n,.vsl 3 l.x (l.ps.map aH),.str l.v] false,.cells (x.map av) false,.cells [.str [],.str [],.nilsl,.str []] false]) (hD:a.D=[])
    (h1:(∀s∈gb,s≠ []→small l.n≠s)→ ∀T,aB T [(2,.ptr 0 0),(3,.ptr 1 0),(4,.ptr 2 0)]→Q .normal ⟨T,[.cells [.str l.g,.str l.n,.vsl 3 l.x (l.ps.map aH),.str l.v] false,.cells (x.map av) false,.cells [.str [],.str [],.nilsl,.str []] false],[]⟩)
    (h2: ∀T A B,Av.get T 4=.ptr 2 0→Av.get T 5=.bool (lnC x l).2→Q .ret ⟨T,[A,B,.cells [.str (lnC x l).1.g,.str (lnC x l).1.n,.vsl 3 (lnC x l).1.x ((lnC x l).1.ps.map aH),.str (lnC x l).1.v] false],[]⟩):
    W Tryz.prog 117 0 none (.loop J4) (bl 0 Q) a:=by
  have hXh:=aJ x;have hldx: ∀A Z,al Tryz.prog 27 (.ptr 1 0) [A,.cells (x.map av) false,Z]=some (.agg (x.map av)):=fun A Z=>fu rfl hx;have hnm:=fun s=>fq l s hm;have hsy:=fun f hf=>yf l f hf hm hv;have hwt:=uG x hx;have hrh:=az l.ps;rw[mr]at hnm;simp only[mr]at hsy
  refine W.bh (X:=Nat) (fun i=>[(7,.int .i64 (i:Int)),(6,.vsl 0 true (gb.map .str)),(2,.ptr 0 0),(3,.ptr 1 0),(4,.ptr 2 0)]) (fun _=>[.cells [.str l.g,.str l.n,.vsl 3 l.x (l.ps.map aH),.str l.v] false,.cells (x.map av) false,.cells [.str [],.str [],.nilsl,.str []] false]) (fun i=>i≤6∧ ∀s∈gb.take i,s≠ []→small l.n≠s) (fun i=>6 - i) 0 ⟨Nat.zero_le _,by simp⟩ hT hH ?_;rintro i ⟨hi,hno⟩;rw[hD];show W Tryz.prog 117 0 none (.seq (.seq (.region 3 _ _) _) (.seq (.block 1 (.seq (.region 5 _ _) _)) _)) _ _;by_cases h:i<6
  · obtain ⟨s,hs,_⟩:=drop_at (show i<gb.length from h)
    have hia: ∀X,ah Tryz.prog 25 (.vsl 0 true (gb.map .str)) (.int .i64 (i:Int)) X=some (.vptr [.str s]):=fun X=>dW (v:=.str s) (by simp[hs]) rfl X;have hnext:(s≠ []→small l.n≠s)→ ∀t∈gb.take (i+1),t≠ []→small l.n≠t:=fun hh t ht=>by
      rw[List.take_add_one,hs]at ht;rcases List.mem_append.1 ht with h|h
      · exact hno t h
      · simp at h;subst h;exact hh
    by_cases hse:s=[]
    · have hsb:(s==([]:Bytes))=true:=by simp[hse]
      refine .vc (by decide) ?_
      repeat'(first|(simp(disch:=first|omega|(simp only[zL];omega))only[go_sem,seval]))
      refine W.aO [] [false,false,false,false,false,false,false,false,false,false,false,false,false] [] mixed (by kernel_rfl) (by kernel_rfl) (by kernel_rfl) ?_
      repeat'(first|(simp(disch:=first|omega|(simp only[zL];omega))only[go_sem,seval,hia,hsb]))
      exact⟨i+1,⟨h,hnext fun hh=>(hh hse).elim⟩,by omega,rfl,rfl,rfl,rfl,rfl,trivial⟩
    · have hsb:(s==([]:Bytes))=false:=by simp[hse]
      have hn1:=hnm s;by_cases hq:small l.n=s
      · rw [beq_iff_eq.2 hq]at hn1
        have hk:=xa hs hse;rw[←hq]at hk;have hlc:=Cw x hk;have hw1:=hwt i (by omega);have hs1:=hsy i (by omega);by_cases he:aK l i=hdB (ar x i)
        · rw[if_pos he]at hlc
          rw[hlc]at h2;have hsb2:(aK l i==hdB (ar x i))=true:=by simp[he]
          generalize l.ps.map aH=P at*;generalize x.map av=X at*;generalize aK l i=sv at*;generalize hdB (ar x i)=w at*;refine .vc (by decide) ?_
          repeat'(first|(simp(disch:=first|omega|(simp only[zL];omega))only[go_sem,seval]))
          refine W.aO [] [false,false,false,false,false,false,false,false,false,false,false,false,false] [] mixed (by kernel_rfl) (by kernel_rfl) (by kernel_rfl) ?_
          repeat'(first|(simp(disch:=first|omega|(simp only[zL];omega))only[go_sem,seval,hia,hsb])|((with_reducible first|apply aj.pure|apply an.pure);(with_reducible exact hn1);(first|rfl|simp only[go_sem,hrh])))
          refine W.aO [] [false,false,false,false,false,false,false] [] mixed (by kernel_rfl) (by kernel_rfl) (by kernel_rfl) ?_
          repeat'(first|(simp(disch:=first|omega|(simp only[zL];omega))only[go_sem,seval,hldx,hsb2])|((with_reducible first|apply aj.pure|apply an.pure);(with_reducible assumption);(first|rfl|simp only[go_sem,hrh,hXh])))
          exact h2 _ _ _ rfl rfl
        · rw[if_neg he]at hlc
          rw[hlc]at h2;have hsb2:(aK l i==hdB (ar x i))=false:=by simp[he]
          have hwl:(hdB (ar x i)).length≤1000000:=by
            cases hf:ar x i with
            |nil=>simp[hdB]
            |cons a t=>exact hcb i (by omega) a (by rw[hf];simp)
          have hes:=zw _ hwl;simp only at h2;generalize l.ps.map aH=P at*;generalize x.map av=X at*;generalize aK l i=sv at*;generalize hdB (ar x i)=w at*;refine .vc (by decide) ?_
          repeat'(first|(simp(disch:=first|omega|(simp only[zL];omega))only[go_sem,seval]))
          refine W.aO [] [false,false,false,false,false,false,false,false,false,false,false,false,false] [] mixed (by kernel_rfl) (by kernel_rfl) (by kernel_rfl) ?_
          repeat'(first|(simp(disch:=first|omega|(simp only[zL];omega))only[go_sem,seval,hia,hsb])|((with_reducible first|apply aj.pure|apply an.pure);(with_reducible exact hn1);(first|rfl|simp only[go_sem,hrh])))
          refine W.aO [] [false,false,false,false,false,false,false] [] mixed (by kernel_rfl) (by kernel_rfl) (by kernel_rfl) ?_
          repeat'(first|(simp(disch:=first|omega|(simp only[zL];omega))only[go_sem,seval,hldx,hsb2])|((with_reducible first|apply aj.pure|apply an.pure);(with_reducible assumption);(first|rfl|simp only[go_sem,hrh,hXh])))
          refine W.aO [5] [false,false,false,false,false,true,false] [] mixed (by kernel_rfl) (by kernel_rfl) (by kernel_rfl) ?_
          repeat'(first|(simp(disch:=first|omega|(simp only[zL];omega))only[go_sem,seval,hldx])|((with_reducible first|apply aj.pure|apply an.pure);(with_reducible exact hw1);(first|rfl|simp only[go_sem,hrh,hXh])))
          exact h2 _ _ _ rfl rfl
      · rw[beq_eq_false_iff_ne.2 hq]at hn1
        generalize l.ps.map aH=P at*;refine .vc (by decide) ?_
        repeat'(first|(simp(disch:=first|omega|(simp only[zL];omega))only[go_sem,seval]))
        refine W.aO [] [false,false,false,false,false,false,false,false,false,false,false,false,false] [] mixed (by kernel_rfl) (by kernel_rfl) (by kernel_rfl) ?_
        repeat'(first|(simp(disch:=first|omega|(simp only[zL];omega))only[go_sem,seval,hia,hsb])|((with_reducible first|apply aj.pure|apply an.pure);(with_reducible exact hn1);(first|rfl|simp only[go_sem,hrh])))
        exact⟨i+1,⟨h,hnext fun _=>hq⟩,by omega,rfl,rfl,rfl,rfl,rfl,trivial⟩
  · have e:i=6:=by omega
    subst e;refine .vc (by decide) ?_
    repeat'(first|(simp(disch:=first|omega|(simp only[zL];omega))only[go_sem,seval]))
    refine h1 (fun s hs=>hno s (by rw[List.take_of_length_le (by decide)];exact hs)) _ ?_;exact⟨rfl,rfl,rfl,trivial⟩
theorem ry{l:Ln}{f:Nat}(x:List Val)(h:aD (small l.n)=some ⟨[f],false,true⟩):lnC x l=(l,(aK l f==([]:Bytes))||inB (aK l f) (ar x f)):=by
 have hs:=dw (n:=0) h rfl;have hv:ba ⟨[f],false,true⟩ l.v=[aK l f]:=by
  have hl:(ba ⟨[f],false,true⟩ l.v).length=1:=by simp[ba]
  obtain⟨a,ha⟩:=List.length_eq_one_iff.1 hl;rw[ha]at hs ⊢;simpa using hs
 unfold lnC;rw[h];simp only[cK,if_true,hv,List.headD_cons]
theorem HZ{l:Ln}(x:List Val)(h:aD (small l.n)=some ⟨[2,1],true,false⟩):lnC x l=if aK l 2=hdB (ar x 2)∧aK l 1=hdB (ar x 1)then(l,true)else
    ({l with v:=Lib.join (bz [hdB (ar x 2),hdB (ar x 1)] (aY 59 l.v)) [59]},(bz [hdB (ar x 2),hdB (ar x 1)] (aY 59 l.v)).any fun p=> !(p==[])):=by
  have hs:=dw (n:=0) h rfl;have hs1:=dw (n:=1) h rfl;have hv:ba ⟨[2,1],true,false⟩ l.v=[aK l 2,aK l 1]:=by
    have e:ba ⟨[2,1],true,false⟩ l.v=[atC (dn ⟨[2,1],true,false⟩ l.v) 0,atC (dn ⟨[2,1],true,false⟩ l.v) 1]:=rfl;rw[e]at hs hs1 ⊢;simp at hs hs1;rw[hs,hs1]
  unfold lnC;rw[h];simp only[cK,Bool.false_eq_true,if_false,hv,bw,List.map_cons,List.map_nil,vh];have hc:dn ⟨[2,1],true,false⟩ l.v=aY 59 l.v:=rfl;rw[hc];by_cases he:aK l 2=hdB (ar x 2)∧aK l 1=hdB (ar x 1)
  · rw[if_pos he,if_pos (by rw[he.1,he.2])]
  · rw[if_neg he,if_neg (by simpa using he)]
theorem Cy{l:Ln}(x:List Val)(h:aD (small l.n)=some ⟨[3],true,false⟩):lnC x l=if aK l 3=hdB (ar x 3)then(l,true)else
    ({l with v:=Lib.join (bz [hdB (ar x 3)] (aY 59 l.v)) [59]},(bz [hdB (ar x 3)] (aY 59 l.v)).any fun p=> !(p==[])):=by
  have hs:=dw (n:=0) h rfl;have hv:ba ⟨[3],true,false⟩ l.v=[aK l 3]:=by
    have hl:(ba ⟨[3],true,false⟩ l.v).length=1:=by simp[ba]
    obtain⟨a,ha⟩:=List.length_eq_one_iff.1 hl;rw[ha]at hs ⊢;simpa using hs
  unfold lnC;rw[h];simp only[cK,Bool.false_eq_true,if_false,hv,bw,List.map_cons,List.map_nil,vh];have hc:dn ⟨[3],true,false⟩ l.v=aY 59 l.v:=rfl;rw[hc];by_cases he:aK l 3=hdB (ar x 3)
  · rw[if_pos he,if_pos (by rw[he])]
  · rw[if_neg he,if_neg (by simpa using he)]
theorem LH(a b:Bytes):aw Tryz.prog 25 2 [(0,.str a),(1,.str b)]=some (.vsl 0 true [.str a,.str b]):=by
 simp[aw,Tryz.underlying25,ik,AV.cells,AV.told,List.range',esz]
set_option maxRecDepth 8000 in
theorem Cz {l:Ln} {x:List Val} {Q:Ex→St→Prop} {T:List (Nat×AV)} (hx:x.length=8) (hm:l.n.length≤1000000) (hv:l.v.length≤1000000) (hcb: ∀f,f<8→ ∀s∈ar x f,s.length≤1000000) (hno: ∀s∈gb,s≠ []→small l.n≠s) (hT:aB T [(2,.ptr 0 0),(3,.ptr 1 0),(4,.ptr 2 0)])
    (h2: ∀T A B,Av.get T 4=.ptr 2 0→Av.get T 5=.bool (lnC x l).2→Q .ret ⟨T,[A,B,.cells [.str (lnC x l).1.g,.str (lnC x l).1.n,.vsl 3 (lnC x l).1.x ((lnC x l).1.ps.map aH),.str (lnC x l).1.v] false],[]⟩):
    W Tryz.prog 117 0 none J5 Q ⟨T,[.cells [.str l.g,.str l.n,.vsl 3 l.x (l.ps.map aH),.str l.v] false,.cells (x.map av) false,.cells [.str [],.str [],.nilsl,.str []] false],[]⟩:=by
  have hXh:=aJ x;have hldx: ∀A Z,al Tryz.prog 27 (.ptr 1 0) [A,.cells (x.map av) false,Z]=some (.agg (x.map av)):=fun A Z=>fu rfl hx;have hnm:=fun s=>fq l s hm;have hsy:=fun f hf=>yf l f hf hm hv;have hwt:=uG x hx;have hrh:=az l.ps;rw[mr]at hnm;simp only[mr]at hsy;have hwl: ∀f,f<8→(hdB (ar x f)).length≤1000000:=fun f hf=>by
    cases hl:ar x f with
    |nil=>simp[hdB]
    |cons a t=>exact hcb f hf a (by rw[hl];simp)
  refine W.bQ _ hT ?_;show W Tryz.prog 117 0 none (.seq (.seq (.region 10 _ _) _) (.seq (.region 16 _ _) _)) _ _;have sy:aa Tryz.prog 36 [.agg [.str l.g,.str l.n,.vsl 3 l.x (l.ps.map aH),.str l.v],.int .i64 1] (.ret (.str (aK l 1)))∧aa Tryz.prog 36 [.agg [.str l.g,.str l.n,.vsl 3 l.x (l.ps.map aH),.str l.v],.int .i64 2] (.ret (.str (aK l 2)))∧aa Tryz.prog 36 [.agg [.str l.g,.str l.n,.vsl 3 l.x (l.ps.map aH),.str l.v],.int .i64 3] (.ret (.str (aK l 3))):=⟨hsy 1 (by decide),hsy 2 (by decide),hsy 3 (by decide)⟩
  have wt:aa Tryz.prog 78 [.agg (x.map av),.int .i64 1] (.ret (.str (hdB (ar x 1))))∧aa Tryz.prog 78 [.agg (x.map av),.int .i64 2] (.ret (.str (hdB (ar x 2))))∧aa Tryz.prog 78 [.agg (x.map av),.int .i64 3] (.ret (.str (hdB (ar x 3)))):=⟨hwt 1 (by decide),hwt 2 (by decide),hwt 3 (by decide)⟩
  obtain⟨sy1,sy2,sy3⟩:=sy;obtain⟨wt1,wt2,wt3⟩:=wt;have hk:=kn (small l.n);generalize hkk:aD (small l.n)=ko at hk;generalize hnn:small l.n=nn at*;have hnE:=hnm [101,109,97,105,108];have hnT:=hnm [116,101,108];have hnN:=hnm [110];have hnO:=hnm [111,114,103];cases hk with
  |fn=>exact(hno nFN (by decide) (by decide) rfl).elim
  |title=>exact(hno bg (by decide) (by decide) rfl).elim
  |note=>exact(hno bx (by decide) (by decide) rfl).elim
  | email=>
    have hlc:=ry x (by rw[hnn];exact hkk);rw[hlc]at h2;rw[show(bm==[101,109,97,105,108])=true from rfl]at hnE;rw[show(bm==[116,101,108])=false from rfl]at hnT;have hs1:aa Tryz.prog 36 [.agg [.str l.g,.str l.n,.vsl 3 l.x (l.ps.map aH),.str l.v],.int .i64 6] (.ret (.str (aK l 6))):=hsy 6 (by decide);obtain⟨u,hu⟩: ∃u,x[6]? =some u:=⟨_,List.getElem?_eq_getElem (by omega)⟩
    have hfv:=eP x 6 u hu;have hldc: ∀A Z,al Tryz.prog 25 (.ptr 1 6) [A,.cells (x.map av) false,Z]=some (av u):=fun A Z=>kG _ 1 6 x u false rfl hu;have hic: ∀H,ah Tryz.prog 27 (.ptr 1 0) (.int .i64 6) H=some (.ptr 1 6):=eG 1 6 (by decide);have ham:=xb u.1 u.2 (aK l 6);rw[hfv]at h2;obtain⟨ux,ul⟩:=u;simp only[av]at hldc ham h2;generalize inB (aK l 6) ul=q at*;generalize aK l 6=sv at*;generalize l.ps.map aH=P at*;generalize x.map av=X at*;cases hsb:(sv==([]:Bytes))with
    | true=>
      rw[hsb]at h2;simp only[Bool.true_or]at h2;refine .vc (by decide) ?_
      repeat'(first|(simp(disch:=first|omega|(simp only[zL];omega))only[go_sem,seval])|((with_reducible first|apply aj.pure|apply an.pure);(with_reducible assumption);(first|rfl|simp only[go_sem,hrh])))
      refine W.aO [8,10] [false,false,false,false,false,false,false,false,true,false,true,false] [(0,9)] mixed (by kernel_rfl) (by kernel_rfl) (by kernel_rfl) ?_
      repeat'(first|(simp(disch:=first|omega|(simp only[zL];omega))only[go_sem,seval,hsb]))
      exact h2 _ _ _ rfl rfl
    | false=>
      rw[hsb]at h2;simp only[Bool.false_or]at h2;refine .vc (by decide) ?_
      repeat'(first|(simp(disch:=first|omega|(simp only[zL];omega))only[go_sem,seval])|((with_reducible first|apply aj.pure|apply an.pure);(with_reducible assumption);(first|rfl|simp only[go_sem,hrh])))
      refine W.aO [8,10] [false,false,false,false,false,false,false,false,true,false,true,false] [(0,9)] mixed (by kernel_rfl) (by kernel_rfl) (by kernel_rfl) ?_
      repeat'(first|(simp(disch:=first|omega|(simp only[zL];omega))only[go_sem,seval,hsb,hic,hldc])|((with_reducible first|apply aj.pure|apply an.pure);(with_reducible exact ham);(first|rfl|simp only[go_sem,aF])))
      exact h2 _ _ _ rfl rfl
  | tel=>
    have hlc:=ry x (by rw[hnn];exact hkk);rw[hlc]at h2;rw[show(cE==[101,109,97,105,108])=false from rfl]at hnE;rw[show(cE==[116,101,108])=true from rfl]at hnT;have hs1:aa Tryz.prog 36 [.agg [.str l.g,.str l.n,.vsl 3 l.x (l.ps.map aH),.str l.v],.int .i64 7] (.ret (.str (aK l 7))):=hsy 7 (by decide);obtain⟨u,hu⟩: ∃u,x[7]? =some u:=⟨_,List.getElem?_eq_getElem (by omega)⟩
    have hfv:=eP x 7 u hu;have hldc: ∀A Z,al Tryz.prog 25 (.ptr 1 7) [A,.cells (x.map av) false,Z]=some (av u):=fun A Z=>kG _ 1 7 x u false rfl hu;have hic: ∀H,ah Tryz.prog 27 (.ptr 1 0) (.int .i64 7) H=some (.ptr 1 7):=eG 1 7 (by decide);have ham:=xb u.1 u.2 (aK l 7);rw[hfv]at h2;obtain⟨ux,ul⟩:=u;simp only[av]at hldc ham h2;generalize inB (aK l 7) ul=q at*;generalize aK l 7=sv at*;generalize l.ps.map aH=P at*;generalize x.map av=X at*;cases hsb:(sv==([]:Bytes))with
    | true=>
      rw[hsb]at h2;simp only[Bool.true_or]at h2;refine .vc (by decide) ?_
      repeat'(first|(simp(disch:=first|omega|(simp only[zL];omega))only[go_sem,seval])|((with_reducible first|apply aj.pure|apply an.pure);(with_reducible assumption);(first|rfl|simp only[go_sem,hrh])))
      refine W.aO [8,10] [false,false,false,false,false,false,false,false,true,false,true,false] [(0,9)] mixed (by kernel_rfl) (by kernel_rfl) (by kernel_rfl) ?_
      repeat'(first|(simp(disch:=first|omega|(simp only[zL];omega))only[go_sem,seval,hsb]))
      exact h2 _ _ _ rfl rfl
    | false=>
      rw[hsb]at h2;simp only[Bool.false_or]at h2;refine .vc (by decide) ?_
      repeat'(first|(simp(disch:=first|omega|(simp only[zL];omega))only[go_sem,seval])|((with_reducible first|apply aj.pure|apply an.pure);(with_reducible assumption);(first|rfl|simp only[go_sem,hrh])))
      refine W.aO [8,10] [false,false,false,false,false,false,false,false,true,false,true,false] [(0,9)] mixed (by kernel_rfl) (by kernel_rfl) (by kernel_rfl) ?_
      repeat'(first|(simp(disch:=first|omega|(simp only[zL];omega))only[go_sem,seval,hsb,hic,hldc])|((with_reducible first|apply aj.pure|apply an.pure);(with_reducible exact ham);(first|rfl|simp only[go_sem,aF])))
      exact h2 _ _ _ rfl rfl
  | n =>
    have hlc:=HZ x (by rw[hnn];exact hkk);rw[show(nN==[101,109,97,105,108])=false from rfl]at hnE;rw[show(nN==[116,101,108])=false from rfl]at hnT;rw[show(nN==[110])=true from rfl]at hnN;rw[show(nN==[111,114,103])=false from rfl]at hnO;have hpt:=yl true [hdB (ar x 2),hdB (ar x 1)] l.v hv (by simp) (by intro w hw;simp at hw;rcases hw with rfl|rfl;exact hwl 2 (by decide);exact hwl 1 (by decide)) (vg (by simp) (by intro w hw;simp at hw;rcases hw with rfl|rfl;exact hwl 2 (by decide);exact hwl 1 (by decide)) hv);simp only[List.map_cons,List.map_nil]at hpt;rw[hlc]at h2
    have hnO2:aa Tryz.prog 35 [.agg [.str l.g,.str l.n,.vsl 3 l.x (l.ps.map aH),.str (Lib.join (bz [hdB (ar x 2),hdB (ar x 1)] (aY 59 l.v)) [59])],.str [111,114,103]] (.ret (.bool false)):=by
      have:=fq ⟨l.g,l.n,l.x,l.ps,Lib.join (bz [hdB (ar x 2),hdB (ar x 1)] (aY 59 l.v)) [59]⟩ [111,114,103] hm;rw[mr]at this;simp only[hnn]at this;exact this
    generalize(bz [hdB (ar x 2),hdB (ar x 1)] (aY 59 l.v)).any (fun p=> !(p==[]))=b at*;generalize Lib.join (bz [hdB (ar x 2),hdB (ar x 1)] (aY 59 l.v)) [59]=j at*;generalize x.map av=X at*;have hbs:=LH (hdB (ar x 2)) (hdB (ar x 1));generalize aK l 2=s2 at*;generalize aK l 1=s1 at*;generalize hdB (ar x 2)=w2 at*;generalize hdB (ar x 1)=w1 at*;by_cases e2:s2=w2
    · have b2:(s2==w2)=true:=by simp[e2]
      by_cases e1:s1=w1
      · have b1:(s1==w1)=true:=by simp[e1]
        rw[if_pos ⟨e2,e1⟩]at h2;refine .vc (by decide) ?_
        repeat'(first|(simp(disch:=first|omega|(simp only[zL];omega))only[go_sem,seval])|((with_reducible first|apply aj.pure|apply an.pure);(with_reducible assumption);(first|rfl|simp only[go_sem,hrh])))
        refine W.aO [] [false,false,false,false,false,false,false,false,false,false,false,false,false,false,false,false] [] mixed (by kernel_rfl) (by kernel_rfl) (by kernel_rfl) ?_
        repeat'(first|(simp(disch:=first|omega|(simp only[zL];omega))only[go_sem,seval,hldx,b1,b2])|((with_reducible first|apply aj.pure|apply an.pure);(with_reducible first|exact hnN|exact sy1|exact sy2|exact wt1|exact wt2);(first|rfl|simp only[go_sem,hrh,hXh])))
        refine W.aO [] [false,false,false,false,false,false,false,false,false] [] mixed (by kernel_rfl) (by kernel_rfl) (by kernel_rfl) ?_
        repeat'(first|(simp(disch:=first|omega|(simp only[zL];omega))only[go_sem,seval])|((with_reducible first|apply aj.pure|apply an.pure);(with_reducible exact hnO);(first|rfl|simp only[go_sem,hrh])))
        exact h2 _ _ _ rfl rfl
      · have b1:(s1==w1)=false:=by simp[e1]
        rw[if_neg (fun h=>e1 h.2)]at h2;simp only at h2;refine .vc (by decide) ?_
        repeat'(first|(simp(disch:=first|omega|(simp only[zL];omega))only[go_sem,seval])|((with_reducible first|apply aj.pure|apply an.pure);(with_reducible assumption);(first|rfl|simp only[go_sem,hrh])))
        refine W.aO [] [false,false,false,false,false,false,false,false,false,false,false,false,false,false,false,false] [] mixed (by kernel_rfl) (by kernel_rfl) (by kernel_rfl) ?_
        repeat'(first|(simp(disch:=first|omega|(simp only[zL];omega))only[go_sem,seval,hldx,b1,b2])|((with_reducible first|apply aj.pure|apply an.pure);(with_reducible first|exact hnN|exact sy1|exact sy2|exact wt1|exact wt2);(first|rfl|simp only[go_sem,hrh,hXh])))
        refine W.aO [12] [false,false,false,false,false,false,false,false,false,false,false,false,true,false] [] mixed (by kernel_rfl) (by kernel_rfl) (by kernel_rfl) ?_
        repeat'(first|(simp(disch:=first|omega|(simp only[zL];omega))only[go_sem,seval,hldx,hbs])|((with_reducible first|apply aj.pure|apply an.pure);(with_reducible first|exact wt1|exact wt2|exact hpt);(first|rfl|simp only[go_sem,hXh])))
        refine W.aO [] [false,false,false,false,false,false,false,false,false] [] mixed (by kernel_rfl) (by kernel_rfl) (by kernel_rfl) ?_
        repeat'(first|(simp(disch:=first|omega|(simp only[zL];omega))only[go_sem,seval])|((with_reducible first|apply aj.pure|apply an.pure);(with_reducible exact hnO2);(first|rfl|simp only[go_sem,hrh])))
        exact h2 _ _ _ rfl rfl
    · have b2:(s2==w2)=false:=by simp[e2]
      rw[if_neg (fun h=>e2 h.1)]at h2;simp only at h2;refine .vc (by decide) ?_
      repeat'(first|(simp(disch:=first|omega|(simp only[zL];omega))only[go_sem,seval])|((with_reducible first|apply aj.pure|apply an.pure);(with_reducible assumption);(first|rfl|simp only[go_sem,hrh])))
      refine W.aO [] [false,false,false,false,false,false,false,false,false,false,false,false,false,false,false,false] [] mixed (by kernel_rfl) (by kernel_rfl) (by kernel_rfl) ?_
      repeat'(first|(simp(disch:=first|omega|(simp only[zL];omega))only[go_sem,seval,hldx,b2])|((with_reducible first|apply aj.pure|apply an.pure);(with_reducible first|exact hnN|exact sy1|exact sy2|exact wt1|exact wt2);(first|rfl|simp only[go_sem,hrh,hXh])))
      refine W.aO [12] [false,false,false,false,false,false,false,false,false,false,false,false,true,false] [] mixed (by kernel_rfl) (by kernel_rfl) (by kernel_rfl) ?_
      repeat'(first|(simp(disch:=first|omega|(simp only[zL];omega))only[go_sem,seval,hldx,hbs])|((with_reducible first|apply aj.pure|apply an.pure);(with_reducible first|exact wt1|exact wt2|exact hpt);(first|rfl|simp only[go_sem,hXh])))
      refine W.aO [] [false,false,false,false,false,false,false,false,false] [] mixed (by kernel_rfl) (by kernel_rfl) (by kernel_rfl) ?_
      repeat'(first|(simp(disch:=first|omega|(simp only[zL];omega))only[go_sem,seval])|((with_reducible first|apply aj.pure|apply an.pure);(with_reducible exact hnO2);(first|rfl|simp only[go_sem,hrh])))
      exact h2 _ _ _ rfl rfl
  | org=>
    have hlc:=Cy x (by rw[hnn];exact hkk);rw[show(ct==[101,109,97,105,108])=false from rfl]at hnE;rw[show(ct==[116,101,108])=false from rfl]at hnT;rw[show(ct==[110])=false from rfl]at hnN;rw[show(ct==[111,114,103])=true from rfl]at hnO;have hpt:=yl true [hdB (ar x 3)] l.v hv (by simp) (by intro w hw;simp at hw;subst hw;exact hwl 3 (by decide)) (vg (by simp) (by intro w hw;simp at hw;subst hw;exact hwl 3 (by decide)) hv);simp only[List.map_cons,List.map_nil]at hpt;rw[hlc]at h2;generalize(bz [hdB (ar x 3)] (aY 59 l.v)).any (fun p=> !(p==[]))=b at*
    generalize Lib.join (bz [hdB (ar x 3)] (aY 59 l.v)) [59]=j at*;generalize x.map av=X at*;have hbs:=kU (hdB (ar x 3));generalize aK l 3=s3 at*;generalize hdB (ar x 3)=w3 at*;by_cases e3:s3=w3
    · have b3:(s3==w3)=true:=by simp[e3]
      rw[if_pos e3]at h2;refine .vc (by decide) ?_
      repeat'(first|(simp(disch:=first|omega|(simp only[zL];omega))only[go_sem,seval])|((with_reducible first|apply aj.pure|apply an.pure);(with_reducible assumption);(first|rfl|simp only[go_sem,hrh])))
      refine W.aO [] [false,false,false,false,false,false,false,false,false,false,false,false,false,false,false,false] [] mixed (by kernel_rfl) (by kernel_rfl) (by kernel_rfl) ?_
      repeat'(first|(simp(disch:=first|omega|(simp only[zL];omega))only[go_sem,seval])|((with_reducible first|apply aj.pure|apply an.pure);(with_reducible exact hnN);(first|rfl|simp only[go_sem,hrh])))
      refine W.aO [] [false,false,false,false,false,false,false,false,false] [] mixed (by kernel_rfl) (by kernel_rfl) (by kernel_rfl) ?_
      repeat'(first|(simp(disch:=first|omega|(simp only[zL];omega))only[go_sem,seval,hldx,b3])|((with_reducible first|apply aj.pure|apply an.pure);(with_reducible first|exact hnO|exact sy3|exact wt3);(first|rfl|simp only[go_sem,hrh,hXh])))
      exact h2 _ _ _ rfl rfl
    · have b3:(s3==w3)=false:=by simp[e3]
      rw[if_neg e3]at h2;simp only at h2;refine .vc (by decide) ?_
      repeat'(first|(simp(disch:=first|omega|(simp only[zL];omega))only[go_sem,seval])|((with_reducible first|apply aj.pure|apply an.pure);(with_reducible assumption);(first|rfl|simp only[go_sem,hrh])))
      refine W.aO [] [false,false,false,false,false,false,false,false,false,false,false,false,false,false,false,false] [] mixed (by kernel_rfl) (by kernel_rfl) (by kernel_rfl) ?_
      repeat'(first|(simp(disch:=first|omega|(simp only[zL];omega))only[go_sem,seval])|((with_reducible first|apply aj.pure|apply an.pure);(with_reducible exact hnN);(first|rfl|simp only[go_sem,hrh])))
      refine W.aO [] [false,false,false,false,false,false,false,false,false] [] mixed (by kernel_rfl) (by kernel_rfl) (by kernel_rfl) ?_
      repeat'(first|(simp(disch:=first|omega|(simp only[zL];omega))only[go_sem,seval,hldx,b3])|((with_reducible first|apply aj.pure|apply an.pure);(with_reducible first|exact hnO|exact sy3|exact wt3);(first|rfl|simp only[go_sem,hrh,hXh])))
      refine W.aO [10] [false,false,false,false,false,false,false,false,false,false,true,false] [] mixed (by kernel_rfl) (by kernel_rfl) (by kernel_rfl) ?_
      repeat'(first|(simp(disch:=first|omega|(simp only[zL];omega))only[go_sem,seval,hldx,hbs])|((with_reducible first|apply aj.pure|apply an.pure);(with_reducible first|exact wt3|exact hpt);(first|rfl|simp only[go_sem,hXh])))
      exact h2 _ _ _ rfl rfl
  | none _ g1 g2 g3 g4 g5 g6 g7=>
    have hlc:lnC x l=(l,true):=by unfold lnC;rw[hnn,hkk]
    rw[hlc]at h2;rw[beq_eq_false_iff_ne.2 (show nn≠ [101,109,97,105,108]from g6)]at hnE;rw[beq_eq_false_iff_ne.2 (show nn≠ [116,101,108]from g7)]at hnT;rw[beq_eq_false_iff_ne.2 (show nn≠ [110]from g2)]at hnN;rw[beq_eq_false_iff_ne.2 (show nn≠ [111,114,103]from g3)]at hnO;generalize l.ps.map aH=P at*;generalize x.map av=X at*;refine .vc (by decide) ?_
    repeat'(first|(simp(disch:=first|omega|(simp only[zL];omega))only[go_sem,seval])|((with_reducible first|apply aj.pure|apply an.pure);(with_reducible assumption);(first|rfl|simp only[go_sem,hrh])))
    refine W.aO [] [false,false,false,false,false,false,false,false,false,false,false,false,false,false,false,false] [] mixed (by kernel_rfl) (by kernel_rfl) (by kernel_rfl) ?_
    repeat'(first|(simp(disch:=first|omega|(simp only[zL];omega))only[go_sem,seval])|((with_reducible first|apply aj.pure|apply an.pure);(with_reducible exact hnN);(first|rfl|simp only[go_sem,hrh])))
    refine W.aO [] [false,false,false,false,false,false,false,false,false] [] mixed (by kernel_rfl) (by kernel_rfl) (by kernel_rfl) ?_
    repeat'(first|(simp(disch:=first|omega|(simp only[zL];omega))only[go_sem,seval])|((with_reducible first|apply aj.pure|apply an.pure);(with_reducible exact hnO);(first|rfl|simp only[go_sem,hrh])))
    exact h2 _ _ _ rfl rfl
set_option maxRecDepth 8000 in
theorem H0(l:Ln)(x:List Val)(hx:x.length=8)(hm:l.n.length≤1000000)(hv:l.v.length≤1000000)(hcb: ∀f,f<8→ ∀s∈ar x f,s.length≤1000000):
    aa Tryz.prog 67 [aq l,.agg (x.map av)] (.ret (.tup [aq (lnC x l).1,.bool (lnC x l).2])):=by
  have hLh:=az l.ps;have hxh:=aJ x;have hb6:aw Tryz.prog 25 6 [(0,.str [102,110]),(1,.str []),(2,.str []),(3,.str []),(4,.str [116,105,116,108,101]),(5,.str [110,111,116,101])]=some (.vsl 0 true (gb.map .str)):=by kernel_rfl
  refine aa.of Tryz.func67 rfl (ab enters Tryz.func67 rfl) (by simp[Tryz.ntmps67]) ?_;show W Tryz.prog 117 0 none (.seq (.region 0 _ _) (.seq (.region 1 _ _) (.seq (.seq (.region 2 _ _) (.block 0 (.loop J4))) J5))) _ _;rw[show bn 0 [aq l,.agg (x.map av)]=bn 0 [.agg [.str l.g,.str l.n,.vsl 3 l.x (l.ps.map aH),.str l.v],.agg (x.map av)]from rfl]
  have h2: ∀T A B,Av.get T 4=.ptr 2 0→Av.get T 5=.bool (lnC x l).2→fp Tryz.prog Tryz.f67.results.toList (.ret (.tup [aq (lnC x l).1,.bool (lnC x l).2])) .ret ⟨T,[A,B,.cells [.str (lnC x l).1.g,.str (lnC x l).1.n,.vsl 3 (lnC x l).1.x ((lnC x l).1.ps.map aH),.str (lnC x l).1.v] false],[]⟩:=
    fun T A B h4 h5=>HY rfl h4 h5
  generalize aq (lnC x l).1=R at h2 ⊢;generalize hP:l.ps.map aH=P at hLh ⊢;generalize hX:x.map av=X at hxh ⊢;refine .seq (.vc (by decide) ?_)
  repeat'(first|(simp(disch:=first|omega|(simp only[zL];omega))only[go_sem,seval]))
  refine .seq (.vc (by decide) ?_)
  repeat'(first|(simp(disch:=first|omega|(simp only[zL];omega))only[go_sem,seval,hb6]))
  refine .seq (.vc (by decide) ?_)
  repeat'(first|(simp(disch:=first|omega|(simp only[zL];omega))only[go_sem,seval]))
  subst hP;subst hX;refine Cx hx hm hv hcb ⟨rfl,rfl,rfl,rfl,rfl,trivial⟩ rfl rfl (fun hno T hT=> ?_) (fun T A B h4 h5=>h2 T A B h4 h5);simp only[ak];exact Cz hx hm hv hcb hno hT h2
def cV(x:List Val)(ls:List Ln):List Ln:=ls.flatMap fun l=>if(lnC x l).2 then [(lnC x l).1]else []
theorem xc{x:List Val}{ls:List Ln}{i:Nat}{l:Ln}(h:ls[i]? =some l):cV x (ls.take (i+1))=cV x (ls.take i)++(if(lnC x l).2 then [(lnC x l).1]else []):=by
 rw[List.take_add_one,h,cV,List.flatMap_append];simp[cV]
theorem rz(x:List Val)(ls:List Ln):(cV x ls).length≤ls.length:=by
 induction ls with
 |nil=>simp[cV]
 |cons l ls ih=>
  have h1:(if(lnC x l).2 then [(lnC x l).1]else([]:List Ln)).length≤1:=by split<;>simp
  simp only[cV,List.flatMap_cons,List.length_append,List.length_cons]at ih ⊢;omega
/-! ### The new lines -/
def fA(x:List Val)(now:Nat→List Bytes):List (Ln×Bool):=if now 0=[]∧hdB (ar x 0)≠ []then [lnN nFN (esc (hdB (ar x 0)))]else []
def dM(x:List Val)(now:Nat→List Bytes):List (Ln×Bool):=if now 1=[]∧now 2=[]∧hdB (ar x 1)++hdB (ar x 2)≠ []then [lnN nN (esc (hdB (ar x 2))++[59]++esc (hdB (ar x 1))++[59,59,59])]else []
def eT:List Bytes:=[[],[],[],ct,bg,bx,bm,cE]
def bC(x:List Val)(now:Nat→List Bytes)(f:Nat):List (Ln×Bool):=match eT[f]? with
 |some n=>(bR (ar x f) (now f)).map fun v=>lnN n (esc v)
 |none=>[]
def eH(x:List Val)(now:Nat→List Bytes):List (Ln×Bool):=fA x now++dM x now++((List.range 5).flatMap fun i=>bC x now (3+i))
noncomputable def J6:Code:=match Tryz.f40.body with
 |some (.seq _ (.seq _ (.seq (.seq _ (.block _ (.loop c))) _)))=>c
 |_=>.skip
noncomputable def LI:Code:=match Tryz.f40.body with
 |some (.seq _ (.seq _ (.seq _ (.seq _ (.seq _ (.seq _ (.seq _ (.seq (.seq _ (.block _ (.loop c))) _))))))))=>c
 |_=>.skip
def iD(ls:List Ln)(f i:Nat):Nat→List Bytes:=fun g=>if g<f then xsP ls g else if g=f then xsP (ls.take i) f else []
theorem H4(ls:List Ln):iD ls 0 0=fun _=>[]:=by
 funext g;unfold iD;rw[if_neg (by omega)];split
 ·simp[xsP]
 ·rfl
theorem te(ls:List Ln)(f i:Nat):iD ls f i f=xsP (ls.take i) f:=by unfold iD;rw[if_neg (by omega),if_pos rfl]
theorem zW(ls:List Ln)(f:Nat):iD ls f ls.length=iD ls (f+1) 0:=by
 funext g;unfold iD;by_cases h:g<f
 ·rw[if_pos h,if_pos (by omega)]
 ·rw[if_neg h]
  by_cases e:g=f
  ·subst e;rw[if_pos rfl,if_pos (by omega),List.take_length]
  ·rw[if_neg e,if_neg (by omega)];split
   ·simp[xsP]
   ·rfl
theorem zX{ls:List Ln}{f i:Nat}{l:Ln}(h:ls[i]? =some l):iD ls f (i+1)=kB (iD ls f i) f (iD ls f i f++nz (aK l f)):=by
 funext g;rw[te];unfold kB;by_cases e:g=f
 ·subst e;rw[if_pos rfl,te,mw h]
 ·rw[if_neg e];unfold iD;simp[e]
theorem CA(ls:List Ln)(g:Nat)(h:g<8):iD ls 8 0 g=xsP ls g:=if_pos h
set_option maxRecDepth 8000 in
theorem E5 {ver:Bytes} {fx:Bool} {ls:List Ln} {x:List Val} {Z:List AV} {Q:Ex→St→Prop} {a:St} (hn:ls.length≤10000) (hnm: ∀l∈ls,l.n.length≤1000000) (hvm: ∀l∈ls,l.v.length≤1000000) (hT:aB a.T [(6,.int .i64 ((0:Nat):Int)),(2,.ptr 0 0),(3,.ptr 1 0),(4,.ptr 2 0),(5,.ptr 3 0)])
    (hH:a.H=[.cells [.str ver,.vsl 5 fx (ls.map aq)] false,.cells (x.map av) false,.cells Z false,.cells bK false]) (hD:a.D=[])
    (h1: ∀T H vs,aB T [(2,.ptr 0 0),(3,.ptr 1 0),(4,.ptr 2 0),(5,.ptr 3 0)]→H[0]? =some (.cells [.str ver,.vsl 5 fx (ls.map aq)] false)→H[1]? =some (.cells (x.map av) false)→H[2]? =some (.cells Z false)→bE H 3 vs (iD ls 8 0)→Q .normal ⟨T,H,[]⟩):
    W Tryz.prog 134 0 none (.loop J6) (bl 0 Q) a:=by
  obtain⟨L,hL⟩: ∃L,L=ls.map aq:=⟨_,rfl⟩
  have hLl:L.length=ls.length:=by rw[hL];simp
  rw[←hL]at hH h1;have hlnL: ∀X,aI Tryz.prog 22 (.vsl 5 fx L) X=some (.int .i64 ls.length):=by intro X;simp[aI,Tryz.underlying22,hLl]
  refine W.loop (X:=Nat) (fun f a=> ∃vs,aB a.T [(6,.int .i64 (f:Int)),(2,.ptr 0 0),(3,.ptr 1 0),(4,.ptr 2 0),(5,.ptr 3 0)]∧a.H[0]? =some (.cells [.str ver,.vsl 5 fx L] false)∧a.H[1]? =some (.cells (x.map av) false)∧a.H[2]? =some (.cells Z false)∧bE a.H 3 vs (iD ls f 0)∧a.D=[]∧f≤8) (fun f=>8 - f) 0
    ⟨bK,hT,by rw[hH];rfl,by rw[hH];rfl,by rw[hH];rfl,by rw[hH,H4];exact bE.none rfl,hD,Nat.zero_le _⟩ ?_
  clear hT hH hD a;rintro f ⟨T,H,D⟩ ⟨vs,hT,g0,g1,g2,hc,rfl,hf⟩;simp only at hT g0 g1 g2 hc;refine W.bQ _ hT ?_;show W Tryz.prog 134 0 none (.seq (.seq (.region 3 _ _) _) (.seq (.block 1 (.seq (.region 5 _ _) _)) _)) _ _;by_cases h:f<8
  · have hic:=eG 3 f h
    refine .vc (by decide) ?_
    repeat'(first|(simp(disch:=first|omega|(simp only[zL];omega))only[go_sem,seval]))
    refine W.loop (X:=Nat) (fun i a=> ∃vs,aB a.T [(7,.int .i64 (i:Int)),(6,.int .i64 (f:Int)),(2,.ptr 0 0),(3,.ptr 1 0),(4,.ptr 2 0),(5,.ptr 3 0)]∧a.H[0]? =some (.cells [.str ver,.vsl 5 fx L] false)∧a.H[1]? =some (.cells (x.map av) false)∧a.H[2]? =some (.cells Z false)∧bE a.H 3 vs (iD ls f i)∧a.D=[]∧i≤ls.length) (fun i=>ls.length - i) 0
      ⟨vs,⟨rfl,rfl,rfl,rfl,rfl,rfl,trivial⟩,g0,g1,g2,hc,rfl,Nat.zero_le _⟩ ?_
    clear g0 g1 g2 hc hT vs H T;rintro i ⟨T,H,D⟩ ⟨vs,hT,g0,g1,g2,hc,rfl,hi⟩;simp only at hT g0 g1 g2 hc;refine W.bQ _ hT ?_;have hld8:al Tryz.prog 22 (.ptr 0 1) H=some (.vsl 5 fx L):=by simp[kA,ldC,g0]
    have hxl:=oj (ls.take i) f;by_cases h3:i<ls.length
    · obtain⟨l,hl,_⟩:=drop_at h3
      have hil: ∀X,ah Tryz.prog 22 (.vsl 5 fx L) (.int .i64 (i:Int)) X=some (.vptr [.str l.g,.str l.n,.vsl 3 l.x (l.ps.map aH),.str l.v]):=fun X=>jj (v:=aq l) (by rw[hL];simp[hl]) rfl X;have hsy:=yf l f h (hnm l (List.mem_of_getElem? hl)) (hvm l (List.mem_of_getElem? hl));have hxt:=zX (f:=f) hl;rw[mr]at hsy;have hrh:=az l.ps;generalize l.ps.map aH=P at*;generalize hs0:aK l f=s at*;by_cases hs:s=[]
      · have hsb:(s==([]:Bytes))=true:=by simp[hs]
        rw[show nz s=[]from if_pos hs,List.append_nil,rl]at hxt;refine .vc (by decide) ?_
        repeat'(first|(simp(disch:=first|omega|(simp only[zL];omega))only[go_sem,seval,hlnL,hld8,hil,hsb])|((with_reducible first|apply aj.pure|apply an.pure);(with_reducible exact hsy);(first|rfl|simp only[go_sem,hrh])))
        exact⟨i+1,⟨vs,⟨rfl,rfl,rfl,rfl,rfl,rfl,trivial⟩,g0,g1,g2,by rw[hxt];exact hc,h3⟩,by omega⟩
      · have hsb:(s==([]:Bytes))=false:=by simp[hs]
        rw[show nz s=[s]from if_neg hs]at hxt;obtain⟨v,M,hv,hld,hap,hst,hcon,hlen,hk⟩:=hc.app h s (by rw[te];simp at hxl;omega);rw[←hxt]at hcon;have hk2: ∀(j:Nat) (o:OB),j≠3→H[j]? =some o→(∀cs,o≠OB.cells cs true)→(M.set 3 (.cells (vs.set f (.sl H.length 0 ((iD ls f i f).length+1) 0)) false))[j]? =some o:=fun j o h3 hj hno=>by
          rw[List.getElem?_set_ne (by omega),hk j (List.getElem?_eq_some_iff.1 hj).1 (hc.free hj hno)];exact hj
        have hde:deN (AV.sl H.length 0 ((iD ls f i f).length+1) 0)=.sl H.length 0 ((iD ls f i f).length+1) 0:=rfl;generalize AV.sl H.length 0 ((iD ls f i f).length+1) 0=v2 at*;refine .vc (by decide) ?_
        repeat'(first|(simp(disch:=first|omega|(simp only[zL];omega))only[go_sem,seval,hlnL,hld8,hil,hsb,hic,hld,kU,hap,hst,hde])|((with_reducible first|apply aj.pure|apply an.pure);(with_reducible exact hsy);(first|rfl|simp only[go_sem,hrh])))
        exact⟨i+1,⟨_,⟨rfl,rfl,rfl,rfl,rfl,rfl,trivial⟩,hk2 0 _ (by omega) g0 (fun cs e=>by cases e),hk2 1 _ (by omega) g1 (fun cs e=>by cases e),hk2 2 _ (by omega) g2 (fun cs e=>by cases e),hcon,h3⟩,by omega⟩
    · have e:i=ls.length:=by omega
      subst e;rw[zW]at hc;refine .vc (by decide) ?_
      repeat'(first|(simp(disch:=first|omega|(simp only[zL];omega))only[go_sem,seval,hlnL,hld8]))
      exact⟨f+1,⟨vs,⟨rfl,rfl,rfl,rfl,rfl,trivial⟩,g0,g1,g2,hc,h⟩,by omega⟩
  · have e:f=8:=by omega
    subst e;refine .vc (by decide) ?_
    repeat'(first|(simp(disch:=first|omega|(simp only[zL];omega))only[go_sem,seval]))
    refine h1 _ _ vs ?_ g0 g1 g2 hc;exact⟨rfl,rfl,rfl,rfl,trivial⟩
set_option maxRecDepth 100000 in
theorem H5{u:AV}{l:List Bytes}(h:Le u (.vsl 0 false (l.map .str)))(X:List OB):aI Tryz.prog 25 (deN u) X=some (.int .i64 l.length):=by
 generalize hv:AV.vsl 0 false (l.map .str)=v at h;have hl:∀n (es:List AV),es=l.map .str→n=es.length→n=l.length:=by rintro n es rfl rfl;simp
 cases h with
 |refl=>subst hv;simp[deN,aI,Tryz.underlying25]
 |junk=>cases hv
 |exact wd x es=>cases hv;simp[deN,aI,Tryz.underlying25]
 |nil wd wd' x=>injection hv with _ _ e;rw[List.map_eq_nil_iff]at e;subst e;simp[deN,aI,Tryz.underlying25]
 |nils wd x=>injection hv with _ _ e;rw[List.map_eq_nil_iff]at e;subst e;simp[deN,aI,Tryz.underlying25]
 |agg=>cases hv
 |tup=>cases hv
noncomputable def E6:Code:=match Tryz.f40.body with
 |some (.seq _ (.seq _ (.seq (.seq _ (.block _ (.loop _))) r)))=>r
 |_=>.skip
noncomputable def CB:Code:=match E6 with
 | .seq _ (.seq _ (.seq _ r))=>r
 |_=>.skip
noncomputable def J7:Code:=match CB with
 | .seq _ (.seq _ r)=>r
 |_=>.skip
structure nh (H:List OB) (ver:Bytes) (fx:Bool) (ls:List Ln) (x:List Val) (v:AV) (N:List (Ln×Bool)):Prop where
 box:H[0]? =some (.cells [.str ver,.vsl 5 fx (ls.map aq)] false)
 con:H[1]? =some (.cells (x.map av) false)
 two:H[2]? =some (.cells [.str [],.nilsl] false)
 own:kN 5 bV H v N
theorem nh.de{H:List OB}{ver:Bytes}{fx:Bool}{ls:List Ln}{x:List Val}{v:AV}{N:List (Ln×Bool)}(h:nh H ver fx ls x v N):deN v=v:=by
 rcases h.own with⟨_,w,rfl⟩|⟨d,rfl,_⟩<;>rfl
theorem nh.add {H:List OB} {ver:Bytes} {fx:Bool} {ls:List Ln} {x:List Val} {v:AV} {N:List (Ln×Bool)} (h:nh H ver fx ls x v N) (q:Ln×Bool) (hl:N.length<1000000):
    ∃v' M,aG Tryz.prog 22 22 v (.vsl 5 true [bV q]) H=some (v',M)∧nh M ver fx ls x v' (N++[q]):=by
  obtain⟨M,hap,hlen,hnew,hold⟩:=il (P:=Tryz.prog) (sT:=22) (wd:=5) Tryz.underlying22 za bV iB jN (by decide) h.own q true (by omega);have hk: ∀(j:Nat) (o:OB),H[j]? =some o→(∀cs,o≠OB.cells cs true)→M[j]? =some o:=fun j o hj ho=>by
    rw[hold j (List.getElem?_eq_some_iff.1 hj).1 fun e=> ?_]
    · exact hj
    · rcases h.own with⟨_,w,e2⟩|⟨d,e2,hd⟩
      · rw[e]at e2;cases e2
      · rw[e]at e2;cases e2
        rw[hj]at hd;exact ho _ (Option.some.inj hd)
  exact⟨_,M,hap,hk 0 _ h.box (fun cs e=>by cases e),hk 1 _ h.con (fun cs e=>by cases e),hk 2 _ h.two (fun cs e=>by cases e),.inr ⟨H.length,by simp,hnew⟩⟩
theorem H6(ls:List Ln):(ls.map aq).flatMap AV.cells=aU bV (ls.map fun l=>(l,false)):=by
 simp only[aU,List.map_map];rfl
set_option maxRecDepth 8000 in
theorem LJ{H:List OB}{T:List (Nat×AV)}{ver:Bytes}{fx:Bool}{ls:List Ln}{x:List Val}{v:AV}{N:List (Ln×Bool)}(h:nh H ver fx ls x v N)(hls:ls.length≤100000)(hN:N.length≤100000)(hT:aB T [(9,v),(2,.ptr 0 0),(4,.ptr 2 0)]):
    W Tryz.prog 134 0 none J7 (fp Tryz.prog Tryz.f40.results.toList (.ret (.agg [.str ver,.vsl 5 false ((ls.map (fun l=>(l,false))++N).map bV)]))) ⟨T,H,[]⟩:=by
  have hde:=h.de;have l0:=(List.getElem?_eq_some_iff.1 h.box).1;have l2:=(List.getElem?_eq_some_iff.1 h.two).1;obtain⟨v1,M1,a1,b1,c1,d1,e1⟩:=qU (P:=Tryz.prog) (sT:=22) (wd:=5) (bytes:=72) Tryz.underlying22 za bV iB jN (by decide) (M:=H) (v:=.vsl 0 true []) (u:=.vsl 5 fx (ls.map aq)) (L:=[]) (N:=ls.map fun l=>(l,false)) H.length (.inl ⟨rfl,0,rfl⟩) trivial (Nat.le_refl _) (by rw[←H6];simp[bW]) (by simp;omega);rw[List.nil_append]at b1;have own1:kN 5 bV M1 v N:=by
    rcases h.own with hh|⟨d,hd1,hd2⟩
    · exact .inl hh
    · exact .inr ⟨d,hd1,by rw[e1 d (List.getElem?_eq_some_iff.1 hd2).1];exact hd2⟩
  obtain⟨v2,M2,a2,b2,c2,d2,e2⟩:=qU (P:=Tryz.prog) (sT:=22) (wd:=5) (bytes:=72) Tryz.underlying22 za bV iB jN (by decide) (M:=M1) (v:=v1) (u:=v) (L:=ls.map fun l=>(l,false)) (N:=N) H.length b1 c1 d1 (ze iB own1) (by simp;omega);have hd1:deN v1=v1:=by rcases b1 with⟨_,w,rfl⟩|⟨d,rfl,_⟩<;>rfl
  have hd2:deN v2=v2∧v2.isC=true∧v2.cells=[v2]:=by rcases b2 with⟨_,w,rfl⟩|⟨d,rfl,_⟩<;>exact⟨rfl,rfl,rfl⟩
  have m0:M2[0]? =some (.cells [.str ver,.vsl 5 fx (ls.map aq)] false):=by rw[e2 0 l0,e1 0 l0];exact h.box
  have m2:M2[2]? =some (.cells [.str [],.nilsl] false):=by rw[e2 2 l2,e1 2 l2];exact h.two
  have lm0:=(List.getElem?_eq_some_iff.1 m0).1;have lm2:=(List.getElem?_eq_some_iff.1 m2).1;have k1:al Tryz.prog 22 (.ptr 0 1) H=some (.vsl 5 fx (ls.map aq)):=by simp[kA,ldC,h.box]
  obtain⟨M3,hM3⟩: ∃M3,M3=M2.set 0 (.cells [.str ver,v2] false):=⟨_,rfl⟩
  have k2:aE Tryz.prog 22 (.ptr 0 1) v2 M2=some M3:=by
    rw[Ds,hM3];simp[stC,m0,hd2.2.2,hd2.2.1,cm]
  have k3:al Tryz.prog 24 (.ptr 0 0) M3=some (.agg [.str ver,v2]):=by
    simp[tZ,ldG,hM3,List.getElem?_set_self lm0]
  have m32:M3[2]? =some (.cells [.str [],.nilsl] false):=by rw[hM3,List.getElem?_set_ne (by omega)];exact m2
  have k4:aE Tryz.prog 24 (.ptr 2 0) (.agg [.str ver,v2]) M3=some (M3.set 2 (.cells [.str ver,v2] false)):=by
    rw[Dt];simp[stC,m32,AV.cells,cm,show AV.isC (.str ver)=true from rfl,hd2.2.1]
  generalize hL:ls.map aq=L at*;refine W.bQ _ hT ?_;show W Tryz.prog 134 0 none (.seq (.region 25 _ _) (.seq (.region 26 _ _) .ret)) _ _;refine .vc (by decide) ?_
  repeat'(first|(simp(disch:=first|omega|(simp only[zL];omega))only[go_sem,seval,k1,k2,k3,k4,a1,a2,hd1,hde]))
  have hs3:kN (4+1) bV (M3.set 2 (.cells [.str ver,v2] false)) v2 (ls.map (fun l=>(l,false))++N):=by
    rcases b2 with hh|⟨d,hd,hdc⟩
    · exact .inl hh
    · refine .inr ⟨d,hd,?_⟩
      have d0:d≠0:=by rintro rfl;rw[m0]at hdc;injection(Option.some.inj hdc)with _ h;cases h
      have d2':d≠2:=by rintro rfl;rw[m2]at hdc;injection(Option.some.inj hdc)with _ h;cases h
      rw[List.getElem?_set_ne (by omega),hM3,List.getElem?_set_ne (by omega)];exact hdc
  obtain⟨w,hw1,hw2⟩:=ob (k:=18) (n:=4) (by decide) (fun q=>⟨_,rfl,rfl⟩) (fun q=>by have:=sW q;rw[bV,AV.hf]at this;exact this) hs3;refine ui (a1:=⟨_,_,[]⟩) (v:=.agg [.str ver,v2]) (w:=.agg [.str ver,w]) rfl (wv 4 24 ?_) ?_ (.agg _ _ (.cons _ _ _ _ (.refl _) (.cons _ _ _ _ hw2 .nil)))
  · show al _ _ (.ptr 2 0) _=_
    simp[tZ,ldG,List.getElem?_set_self (List.getElem?_eq_some_iff.1 m32).1]
  · refine kO ?_
    simp only[List.mapM_cons,List.mapM_nil,cJ (show AV.hf (.str ver)=true from rfl),hw1];rfl
theorem zY{f:Nat}(h:f<8):∃n,eT[f]? =some n:=⟨_,List.getElem?_eq_getElem h⟩
theorem CD(x:List Val)(now:Nat→List Bytes)(f b:Nat)(h:∀f,(ar x f).length≤b):(bC x now f).length≤b:=by
 unfold bC;split
 ·rw[List.length_map];exact Nat.le_trans (ki _ _) (h _)
 ·simp
theorem rA(x:List Val)(now:Nat→List Bytes)(b:Nat)(h:∀f,(ar x f).length≤b):∀i,((List.range i).flatMap fun i=>bC x now (3+i)).length≤b*i
 |0=>by simp
 |i+1=>by
  have:=rA x now b h i;have:=CD x now (3+i) b h;rw[List.range_succ,List.flatMap_append,List.length_append];simp only[List.flatMap_cons,List.flatMap_nil,List.append_nil,Nat.mul_add];omega
set_option maxRecDepth 8000 in
theorem J8 {H:List OB} {T:List (Nat×AV)} {ver:Bytes} {fx:Bool} {ls:List Ln} {x:List Val} {now:Nat→List Bytes} {us:List AV} {v:AV} {N:List (Ln×Bool)} (h:nh H ver fx ls x v N) (hx:x.length=8) (hcb: ∀f,f<8→ ∀s∈ar x f,s.length≤1000000) (hcl: ∀f,(ar x f).length≤10000) (hls:ls.length≤100000) (hN:N.length≤10)
    (hus:us.length=8) (hut: ∀(f:Nat) (u:AV),us[f]? =some u→u.hf=true∧Le u (.vsl 0 false ((now f).map .str))) (hT:aB T [(9,v),(2,.ptr 0 0),(3,.ptr 1 0),(4,.ptr 2 0),(5,.vptr us)]):
    W Tryz.prog 134 0 none CB (fp Tryz.prog Tryz.f40.results.toList (.ret (.agg [.str ver,.vsl 5 false ((ls.map (fun l=>(l,false))++(N++(List.range 5).flatMap fun i=>bC x now (3+i))).map bV)]))) ⟨T,H,[]⟩:=by
  have hb8:aw Tryz.prog 25 8 [(0,.str []),(1,.str []),(2,.str []),(3,.str [111,114,103]),(4,.str [116,105,116,108,101]),(5,.str [110,111,116,101]),(6,.str [101,109,97,105,108]),(7,.str [116,101,108])]=some (.vsl 0 true (eT.map .str)):=by kernel_rfl
  have hnl:=rA x now 10000 hcl;refine W.bQ _ hT ?_;show W Tryz.prog 134 0 none (.seq (.region 16 _ _) (.seq (.seq (.region 17 _ _) (.block 4 (.loop LI))) J7)) _ _;refine .seq (.vc (by decide) ?_)
  repeat'(first|(simp(disch:=first|omega|(simp only[zL];omega))only[go_sem,seval,hb8]))
  refine .seq (.vc (by decide) ?_)
  repeat'(first|(simp(disch:=first|omega|(simp only[zL];omega))only[go_sem,seval]))
  refine W.loop (X:=Nat) (fun i a=> ∃v,aB a.T [(11,.int .i64 ((3+i:Nat):Int)),(10,.vsl 0 true (eT.map .str)),(9,v),(2,.ptr 0 0),(3,.ptr 1 0),(4,.ptr 2 0),(5,.vptr us)]∧nh a.H ver fx ls x v (N++(List.range i).flatMap fun i=>bC x now (3+i))∧a.D=[]∧i≤5) (fun i=>5 - i) 0
    ⟨v,⟨rfl,rfl,rfl,rfl,rfl,rfl,rfl,trivial⟩,by simpa using h,rfl,Nat.zero_le _⟩ ?_
  clear h hT H T v;rintro i ⟨T,H,D⟩ ⟨v,hT,hI,rfl,hi⟩;simp only at hT hI;refine W.bQ _ hT ?_;show W Tryz.prog 134 0 none (.seq (.seq (.region 18 _ _) _) (.seq (.block 5 (.seq (.region 20 _ _) _)) _)) _ _;by_cases h:i<5
  · obtain⟨f,hf⟩: ∃f,f=3+i:=⟨_,rfl⟩
    have hf8:f<8:=by omega
    obtain⟨n,hn⟩:=zY hf8;obtain⟨w,hw⟩: ∃w,x[f]? =some w:=⟨_,List.getElem?_eq_getElem (by omega)⟩
    obtain⟨u,hu⟩: ∃u,us[f]? =some u:=⟨_,List.getElem?_eq_getElem (by omega)⟩
    obtain⟨hu1,hu2⟩:=hut _ _ hu;have hfv:=eP x f w hw;have hwl:w.2.length≤10000:=by have:=hcl f;rwa[hfv]at this
    have hwb: ∀s∈w.2,s.length≤1000000:=fun s hs=>hcb f hf8 s (by rw[hfv];exact hs);have hnf:bC x now f=(bR w.2 (now f)).map fun v=>lnN n (esc v):=by unfold bC;rw[hn,hfv]
    have hic:=eG 1 f hf8;have hiu:=qc us f hf8;have hlu: ∀X,al Tryz.prog 25 (.vptr (us.drop f)) X=some u:=by
      intro X;obtain⟨u2,hu3,hd⟩:=drop_at (show f<us.length by omega);rw[hu]at hu3;cases hu3;rw[hd];exact Dv _ _ _
    have hian: ∀X,ah Tryz.prog 25 (.vsl 0 true (eT.map .str)) (.int .i64 (f:Int)) X=some (.vptr [.str n]):=fun X=>dW (v:=.str n) (by simp[hn]) rfl X;have hldw: ∀(K:List OB),K[1]? =some (.cells (x.map av) false)→al Tryz.prog 25 (.ptr 1 f) K=some (.vsl 0 w.1 (w.2.map .str)):=fun K hK=>kG _ 1 _ x w false hK hw;obtain⟨wx,wl⟩:=w;simp only at hwl hwb hnf hldw;have hlnw: ∀X,aI Tryz.prog 25 (.vsl 0 wx (wl.map .str)) X=some (.int .i64 wl.length):=by intro X;simp[aI,Tryz.underlying25]
    have hin:=hnl i;generalize hNm:AV.vsl 0 true (eT.map .str)=Nm at*;rw[←hf];have hI0:nh H ver fx ls x v (N++((List.range i).flatMap fun i=>bC x now (3+i))++(bR (wl.take 0) (now f)).map fun v=>lnN n (esc v)):=by simpa[bR]using hI
    refine .vc (by decide) ?_
    repeat'(first|(simp(disch:=first|omega|(simp only[zL];omega))only[go_sem,seval]))
    refine W.loop (X:=Nat) (fun j a=> ∃v,aB a.T [(12,.int .i64 (j:Int)),(11,.int .i64 (f:Int)),(10,Nm),(9,v),(2,.ptr 0 0),(3,.ptr 1 0),(4,.ptr 2 0),(5,.vptr us)]∧nh a.H ver fx ls x v (N++((List.range i).flatMap fun i=>bC x now (3+i))++(bR (wl.take j) (now f)).map fun v=>lnN n (esc v))∧a.D=[]∧j≤wl.length) (fun j=>wl.length - j) 0 ?_ ?_
    · exact⟨v,⟨rfl,rfl,rfl,rfl,rfl,rfl,rfl,rfl,trivial⟩,hI0,rfl,Nat.zero_le _⟩
    clear hI hI0 hT H T v;rintro j ⟨T,H,D⟩ ⟨v,hT,hI,rfl,hj⟩;simp only at hT hI;refine W.bQ _ hT ?_;have hld:=hldw H hI.con;by_cases h3:j<wl.length
    · obtain⟨s,hs,_⟩:=drop_at h3
      have his: ∀X,ah Tryz.prog 25 (.vsl 0 wx (wl.map .str)) (.int .i64 (j:Int)) X=some (.vptr [.str s]):=fun X=>dW (v:=.str s) (by simp[hs]) rfl X;have ham:=aa.le (.cons _ _ _ _ hu2 (.cons _ _ _ _ (.refl _) .nil)) (xb false (now f) s);have hmt:=pR (am:=now f) hs;by_cases hq:s∈now f
      · rw[if_pos hq]at hmt
        rw[cR.2 hq]at ham;refine .vc (by decide) ?_
        repeat'(first|(simp(disch:=first|omega|(simp only[zL];omega))only[go_sem,seval,hic,hld,hlnw]))
        refine W.aO [] [false,false,false,false,false,false,false,false,false,false,false] [] mixed (by kernel_rfl) (by kernel_rfl) (by kernel_rfl) ?_
        repeat'(first|(simp(disch:=first|omega|(simp only[zL];omega))only[go_sem,seval,hic,hld,hiu,hlu,his])|((with_reducible first|apply aj.pure|apply an.pure);(with_reducible exact ham);(first|rfl|simp only[go_sem,hu1])))
        exact⟨j+1,⟨v,⟨rfl,rfl,rfl,rfl,rfl,rfl,rfl,rfl,trivial⟩,by rw[hmt];exact hI,h3⟩,by omega⟩
      · rw[if_neg hq]at hmt
        rw[show inB s (now f)=false from by rw[Bool.eq_false_iff];exact fun e=>hq (cR.1 e)]at ham;have hes:=zw s (hwb s (List.mem_of_getElem? hs));have hml:=ki (wl.take j) (now f);obtain⟨v',M,hap,hI'⟩:=hI.add (lnN n (esc s)) (by rw[List.length_take]at hml;simp only[List.length_append,List.length_map];omega);have hde':=hI'.de;have hde:=hI.de;have hbq:=uU (lnN n (esc s));have hbd:=bdQ n (esc s);generalize bV (lnN n (esc s))=Qn at*;refine .vc (by decide) ?_
        repeat'(first|(simp(disch:=first|omega|(simp only[zL];omega))only[go_sem,seval,hic,hld,hlnw]))
        refine W.aO [] [false,false,false,false,false,false,false,false,false,false,false] [] mixed (by kernel_rfl) (by kernel_rfl) (by kernel_rfl) ?_
        repeat'(first|(simp(disch:=first|omega|(simp only[zL];omega))only[go_sem,seval,hic,hld,hiu,hlu,his])|((with_reducible first|apply aj.pure|apply an.pure);(with_reducible exact ham);(first|rfl|simp only[go_sem,hu1])))
        refine W.aO [14] [false,false,false,false,false,false,false,false,false,false,false,false,false,false,true,false] [] mixed (by kernel_rfl) (by kernel_rfl) (by kernel_rfl) ?_
        repeat'(first|(simp(disch:=first|omega|(simp only[zL];omega))only[go_sem,seval,hic,hld,his,hian,hbd,hbq,hap,hde,hde'])|((with_reducible first|apply aj.pure|apply an.pure);(with_reducible exact hes);(first|rfl|simp only[go_sem])))
        refine⟨j+1,⟨v',⟨rfl,rfl,rfl,rfl,rfl,rfl,rfl,rfl,trivial⟩,?_,h3⟩,by omega⟩;rw[hmt,List.map_append,←List.append_assoc];exact hI'
    · have e:j=wl.length:=by omega
      subst e;rw[List.take_length,←hnf]at hI;have e2:(N++(List.range (i+1)).flatMap fun i=>bC x now (3+i))=N++((List.range i).flatMap fun i=>bC x now (3+i))++bC x now f:=by
        rw[List.range_succ,List.flatMap_append,hf];simp
      refine .vc (by decide) ?_
      repeat'(first|(simp(disch:=first|omega|(simp only[zL];omega))only[go_sem,seval,hic,hld,hlnw]))
      exact⟨i+1,⟨v,⟨by rw[show 3+(i+1)=f+1 by omega];rfl,rfl,rfl,rfl,rfl,rfl,rfl,trivial⟩,by rw[e2];exact hI,h⟩,by omega⟩
  · have e:i=5:=by omega
    subst e;have hin:=hnl 5;refine .vc (by decide) ?_
    repeat'(first|(simp(disch:=first|omega|(simp only[zL];omega))only[go_sem,seval]))
    have hfin:=LJ (T:=[(9,v),(2,.ptr 0 0),(4,.ptr 2 0)]) hI hls (by rw[List.length_append];omega) ⟨rfl,rfl,rfl,trivial⟩;refine W.bQ [(9,v),(2,.ptr 0 0),(4,.ptr 2 0)] ⟨rfl,rfl,rfl,trivial⟩ ?_;exact hfin
noncomputable def yu:Code:=match E6 with
 | .seq _ (.seq _ r)=>r
 |_=>.skip
theorem tf{x:List Val}(hcb:∀f,f<8→∀s∈ar x f,s.length≤1000000){f:Nat}(hf:f<8):(hdB (ar x f)).length≤1000000:=by
 cases hl:ar x f with
 |nil=>simp[hdB]
 |cons a t=>exact hcb f hf a (by rw[hl];simp)
theorem CE{us:List AV}{now:Nat→List Bytes}(hus:us.length=8)(hut:∀(f:Nat) (u:AV),us[f]? =some u→u.hf=true∧Le u (.vsl 0 false ((now f).map .str))){f:Nat}(hf:f<8):∃u,(∀X,al Tryz.prog 25 (.vptr (us.drop f)) X=some u)∧∀X,aI Tryz.prog 25 (deN u) X=some (.int .i64 (now f).length):=by
 obtain⟨u,hu,hd⟩:=drop_at (show f<us.length by omega);refine⟨u,fun X=>?_,fun X=>H5 (hut f u hu).2 X⟩;rw[hd];exact Dv _ _ _
set_option maxRecDepth 8000 in
theorem CF {H:List OB} {T:List (Nat×AV)} {ver:Bytes} {fx:Bool} {ls:List Ln} {x:List Val} {now:Nat→List Bytes} {us:List AV} {v:AV} {N:List (Ln×Bool)} (h:nh H ver fx ls x v N) (hx:x.length=8) (hcb: ∀f,f<8→ ∀s∈ar x f,s.length≤1000000) (hcl: ∀f,(ar x f).length≤10000) (hls:ls.length≤100000) (hN:N.length≤5)
    (hus:us.length=8) (hut: ∀(f:Nat) (u:AV),us[f]? =some u→u.hf=true∧Le u (.vsl 0 false ((now f).map .str))) (hT:aB T [(9,v),(2,.ptr 0 0),(3,.ptr 1 0),(4,.ptr 2 0),(5,.vptr us)]):
    W Tryz.prog 134 0 none yu (fp Tryz.prog Tryz.f40.results.toList (.ret (.agg [.str ver,.vsl 5 false ((ls.map (fun l=>(l,false))++(N++dM x now++(List.range 5).flatMap fun i=>bC x now (3+i))).map bV)]))) ⟨T,H,[]⟩:=by
  obtain⟨u1,lu1,ln1⟩:=CE hus hut (show 1<8 by decide);obtain⟨u2,lu2,ln2⟩:=CE hus hut (show 2<8 by decide);have i1: ∀X,ah Tryz.prog 27 (.vptr us) (.int .i64 1) X=some (.vptr (us.drop 1)):=qc us 1 (by decide);have i2: ∀X,ah Tryz.prog 27 (.vptr us) (.int .i64 2) X=some (.vptr (us.drop 2)):=qc us 2 (by decide);have wt1:aa Tryz.prog 78 [.agg (x.map av),.int .i64 1] (.ret (.str (hdB (ar x 1)))):=uG x hx 1 (by decide);have wt2:aa Tryz.prog 78 [.agg (x.map av),.int .i64 2] (.ret (.str (hdB (ar x 2)))):=uG x hx 2 (by decide);have b1:=tf hcb (show 1<8 by decide);have b2:=tf hcb (show 2<8 by decide)
  have e1:=zw _ b1;have e2:=zw _ b2;have el1:=gD (hdB (ar x 1));have el2:=gD (hdB (ar x 2));have hldx:=fu h.con hx;have hxh:=aJ x;have hfin0:dM x now=[]→ ∀T',aB T' [(9,v),(2,.ptr 0 0),(3,.ptr 1 0),(4,.ptr 2 0),(5,.vptr us)]→W Tryz.prog 134 0 none CB (fp Tryz.prog Tryz.f40.results.toList (.ret (.agg [.str ver,.vsl 5 false ((ls.map (fun l=>(l,false))++(N++dM x now++(List.range 5).flatMap fun i=>bC x now (3+i))).map bV)]))) ⟨T',H,[]⟩:=fun e T' hT'=>by
    rw[e,List.append_nil];exact J8 h hx hcb hcl hls (by omega) hus hut hT'
  obtain⟨q,hq⟩: ∃q,q=lnN nN (esc (hdB (ar x 2))++[59]++esc (hdB (ar x 1))++[59,59,59]):=⟨_,rfl⟩
  have hfin1:dM x now=[q]→ ∀T' v' M,nh M ver fx ls x v' (N++[q])→aB T' [(9,v'),(2,.ptr 0 0),(3,.ptr 1 0),(4,.ptr 2 0),(5,.vptr us)]→W Tryz.prog 134 0 none CB (fp Tryz.prog Tryz.f40.results.toList (.ret (.agg [.str ver,.vsl 5 false ((ls.map (fun l=>(l,false))++(N++dM x now++(List.range 5).flatMap fun i=>bC x now (3+i))).map bV)]))) ⟨T',M,[]⟩:=fun e T' v' M hM hT'=>by
    rw[e];exact J8 hM hx hcb hcl hls (by rw[List.length_append];simp;omega) hus hut hT'
  obtain⟨v',M,hap,hI'⟩:=h.add q (by omega);have hde:=h.de;have hde':=hI'.de;have hbd:=bdQ nN (esc (hdB (ar x 2))++[59]++esc (hdB (ar x 1))++[59,59,59]);have hbq:=uU q;rw[←hq]at hbd;have hn1:dM x now=if now 1=[]∧now 2=[]∧hdB (ar x 1)++hdB (ar x 2)≠ []then [q]else []:=by rw[hq];rfl
  have z0: ∀l:List Bytes,l=[]→((l.length:Int)==0)=true:=fun l e=>by simp[e]
  have z1: ∀l:List Bytes,l≠ []→((l.length:Int)==0)=false:=fun l e=>by
    cases l with
    |nil=>exact(e rfl).elim
    |cons a t=>simp;omega
  refine W.bQ _ hT ?_;show W Tryz.prog 134 0 none (.seq (.seq (.region 14 _ _) _) CB) _ _;generalize bV q=Qn at*;generalize hX0:x.map av=X0 at*;generalize esc (hdB (ar x 1))=s1 at*;generalize esc (hdB (ar x 2))=s2 at*;generalize hdB (ar x 1)=w1 at*;generalize hdB (ar x 2)=w2 at*;simp only[nN]at hbd;by_cases c1:now 1=[]
  · have y1:=z0 _ c1
    by_cases c2:now 2=[]
    · have y2:=z0 _ c2
      by_cases c3:w1++w2=[]
      · have hnew:dM x now=[]:=by rw[hn1,if_neg (fun hh=>hh.2.2 c3)]
        have y3:((w1++w2)==([]:Bytes))=true:=by rw[c3];rfl
        refine .seq (.vc (by decide) ?_)
        repeat'(first|(simp(disch:=first|omega|(simp only[zL];omega))only[go_sem,seval]))
        refine W.aO [] [false,false,false,false,false,false,false,false,false,false,false,false,false,false,false,false,false,false] [] mixed (by kernel_rfl) (by kernel_rfl) (by kernel_rfl) ?_
        repeat'(first|(simp(disch:=first|omega|(simp only[zL];omega))only[go_sem,seval,i1,i2,lu1,lu2,ln1,ln2,y1,y2,y3,hldx])|((with_reducible first|apply aj.pure|apply an.pure);(with_reducible first|exact wt1|exact wt2);(first|rfl|simp only[go_sem,hxh])))
        exact hfin0 hnew _ ⟨rfl,rfl,rfl,rfl,rfl,trivial⟩
      · have hnew:dM x now=[q]:=by rw[hn1,if_pos ⟨c1,c2,c3⟩]
        have y3:((w1++w2)==([]:Bytes))=false:=by simpa using c3
        refine .seq (.vc (by decide) ?_)
        repeat'(first|(simp(disch:=first|omega|(simp only[zL];omega))only[go_sem,seval]))
        refine W.aO [] [false,false,false,false,false,false,false,false,false,false,false,false,false,false,false,false,false,false] [] mixed (by kernel_rfl) (by kernel_rfl) (by kernel_rfl) ?_
        repeat'(first|(simp(disch:=first|omega|(simp only[zL];omega))only[go_sem,seval,i1,i2,lu1,lu2,ln1,ln2,y1,y2,y3,hldx])|((with_reducible first|apply aj.pure|apply an.pure);(with_reducible first|exact wt1|exact wt2);(first|rfl|simp only[go_sem,hxh])))
        refine W.aO [12] [false,false,false,false,false,false,false,false,false,false,false,false,true,false] [] mixed (by kernel_rfl) (by kernel_rfl) (by kernel_rfl) ?_
        repeat'(first|(simp(disch:=first|omega|(simp only[zL];omega))only[go_sem,seval,hldx,hbd,hbq,hap,hde,hde'])|((with_reducible first|apply aj.pure|apply an.pure);(with_reducible first|exact wt1|exact wt2|exact e1|exact e2);(first|rfl|simp only[go_sem,hxh])))
        exact hfin1 hnew _ _ _ hI' ⟨rfl,rfl,rfl,rfl,rfl,trivial⟩
    · have hnew:dM x now=[]:=by rw[hn1,if_neg (fun hh=>c2 hh.2.1)]
      have y2:=z1 _ c2;refine .seq (.vc (by decide) ?_)
      repeat'(first|(simp(disch:=first|omega|(simp only[zL];omega))only[go_sem,seval]))
      refine W.aO [] [false,false,false,false,false,false,false,false,false,false,false,false,false,false,false,false,false,false] [] mixed (by kernel_rfl) (by kernel_rfl) (by kernel_rfl) ?_
      repeat'(first|(simp(disch:=first|omega|(simp only[zL];omega))only[go_sem,seval,i1,i2,lu1,lu2,ln1,ln2,y1,y2]))
      exact hfin0 hnew _ ⟨rfl,rfl,rfl,rfl,rfl,trivial⟩
  · have hnew:dM x now=[]:=by rw[hn1,if_neg (fun hh=>c1 hh.1)]
    have y1:=z1 _ c1;refine .seq (.vc (by decide) ?_)
    repeat'(first|(simp(disch:=first|omega|(simp only[zL];omega))only[go_sem,seval]))
    refine W.aO [] [false,false,false,false,false,false,false,false,false,false,false,false,false,false,false,false,false,false] [] mixed (by kernel_rfl) (by kernel_rfl) (by kernel_rfl) ?_
    repeat'(first|(simp(disch:=first|omega|(simp only[zL];omega))only[go_sem,seval,i1,lu1,ln1,y1]))
    exact hfin0 hnew _ ⟨rfl,rfl,rfl,rfl,rfl,trivial⟩
theorem zZ{x:List Val}{a b:Nat→List Bytes}(h:∀f,f<8→a f=b f):eH x a=eH x b:=by
 unfold eH fA dM;rw[h 0 (by omega),h 1 (by omega),h 2 (by omega)];have e:∀f,f<8→bC x a f=bC x b f:=fun f hf=>by unfold bC;rw[h f hf]
 rw[show List.range 5=[0,1,2,3,4]from rfl];simp only[List.flatMap_cons,List.flatMap_nil,e 3 (by omega),e (3+0) (by omega),e (3+1) (by omega),e (3+2) (by omega),e (3+3) (by omega),e (3+4) (by omega)]
set_option maxRecDepth 8000 in
theorem H7 {H:List OB} {T:List (Nat×AV)} {ver:Bytes} {fx:Bool} {ls:List Ln} {x:List Val} {now:Nat→List Bytes} {us:List AV} (h:nh H ver fx ls x (.vsl 0 true []) []) (hx:x.length=8) (hcb: ∀f,f<8→ ∀s∈ar x f,s.length≤1000000) (hcl: ∀f,(ar x f).length≤10000) (hls:ls.length≤100000)
    (hus:us.length=8) (hut: ∀(f:Nat) (u:AV),us[f]? =some u→u.hf=true∧Le u (.vsl 0 false ((now f).map .str))) (hT:aB T [(2,.ptr 0 0),(3,.ptr 1 0),(4,.ptr 2 0),(5,.vptr us)]):
    W Tryz.prog 134 0 none E6 (fp Tryz.prog Tryz.f40.results.toList (.ret (.agg [.str ver,.vsl 5 false ((ls.map (fun l=>(l,false))++eH x now).map bV)]))) ⟨T,H,[]⟩:=by
  obtain⟨u0,lu0,ln0⟩:=CE hus hut (show 0<8 by decide);simp only[List.drop_zero]at lu0;have i0: ∀X,ah Tryz.prog 27 (.vptr us) (.int .i64 0) X=some (.vptr (us.drop 0)):=qc us 0 (by decide);have wt0:aa Tryz.prog 78 [.agg (x.map av),.int .i64 0] (.ret (.str (hdB (ar x 0)))):=uG x hx 0 (by decide);have b0:=tf hcb (show 0<8 by decide);have e0:=zw _ b0;have hldx:=fu h.con hx;have hxh:=aJ x;have hR:eH x now=fA x now++dM x now++(List.range 5).flatMap fun i=>bC x now (3+i):=rfl;obtain⟨q,hq⟩: ∃q,q=lnN nFN (esc (hdB (ar x 0))):=⟨_,rfl⟩
  have hn0:fA x now=if now 0=[]∧hdB (ar x 0)≠ []then [q]else []:=by rw[hq];rfl
  have hfin0:fA x now=[]→ ∀T',aB T' [(9,.vsl 0 true []),(2,.ptr 0 0),(3,.ptr 1 0),(4,.ptr 2 0),(5,.vptr us)]→W Tryz.prog 134 0 none yu (fp Tryz.prog Tryz.f40.results.toList (.ret (.agg [.str ver,.vsl 5 false ((ls.map (fun l=>(l,false))++eH x now).map bV)]))) ⟨T',H,[]⟩:=fun e T' hT'=>by
    rw[hR,e];exact CF h hx hcb hcl hls (by simp) hus hut hT'
  obtain⟨v',M,hap,hI'⟩:=h.add q (by simp);have hfin1:fA x now=[q]→ ∀T',aB T' [(9,v'),(2,.ptr 0 0),(3,.ptr 1 0),(4,.ptr 2 0),(5,.vptr us)]→W Tryz.prog 134 0 none yu (fp Tryz.prog Tryz.f40.results.toList (.ret (.agg [.str ver,.vsl 5 false ((ls.map (fun l=>(l,false))++eH x now).map bV)]))) ⟨T',M,[]⟩:=fun e T' hT'=>by
    rw[hR,e];exact CF hI' hx hcb hcl hls (by simp) hus hut hT'
  have hde':=hI'.de;have hbd:=bdQ nFN (esc (hdB (ar x 0)));have hbq:=uU q;rw[←hq]at hbd;refine W.bQ _ hT ?_;show W Tryz.prog 134 0 none (.seq (.region 11 _ _) (.seq (.seq (.region 12 _ _) _) yu)) _ _;generalize bV q=Qn at*;generalize hX0:x.map av=X0 at*;generalize esc (hdB (ar x 0))=s0 at*;generalize hdB (ar x 0)=w0 at*;simp only[nFN]at hbd;refine .seq (.vc (by decide) ?_)
  repeat'(first|(simp(disch:=first|omega|(simp only[zL];omega))only[go_sem,seval]))
  by_cases c0:now 0=[]
  · have y0:(((now 0).length:Int)==0)=true:=by simp[c0]
    by_cases c1:w0=[]
    · have y1:(w0==([]:Bytes))=true:=by simp[c1]
      refine .seq (.vc (by decide) ?_)
      repeat'(first|(simp(disch:=first|omega|(simp only[zL];omega))only[go_sem,seval,i0,lu0,ln0,y0,y1,hldx])|((with_reducible first|apply aj.pure|apply an.pure);(with_reducible exact wt0);(first|rfl|simp only[go_sem,hxh])))
      refine hfin0 (by rw[hn0,if_neg (fun hh=>hh.2 c1)]) _ ?_;exact⟨rfl,rfl,rfl,rfl,rfl,trivial⟩
    · have y1:(w0==([]:Bytes))=false:=by simp[c1]
      refine .seq (.vc (by decide) ?_)
      repeat'(first|(simp(disch:=first|omega|(simp only[zL];omega))only[go_sem,seval,i0,lu0,ln0,y0,y1,hldx,hbd,hbq,hap,hde'])|((with_reducible first|apply aj.pure|apply an.pure);(with_reducible first|exact wt0|exact e0);(first|rfl|simp only[go_sem,hxh])))
      refine hfin1 (by rw[hn0,if_pos ⟨c0,c1⟩]) _ ?_;exact⟨rfl,rfl,rfl,rfl,rfl,trivial⟩
  · have y0:(((now 0).length:Int)==0)=false:=by
      cases hl:now 0 with
      |nil=>exact(c0 hl).elim
      |cons a t=>simp;omega
    refine .seq (.vc (by decide) ?_)
    repeat'(first|(simp(disch:=first|omega|(simp only[zL];omega))only[go_sem,seval,i0,lu0,ln0,y0]))
    refine hfin0 (by rw[hn0,if_neg (fun hh=>c0 hh.1)]) _ ?_;exact⟨rfl,rfl,rfl,rfl,rfl,trivial⟩
set_option maxRecDepth 8000 in
theorem H8(c:Cd)(x:List Val)(hx:x.length=8)(hcb: ∀f,f<8→ ∀s∈ar x f,s.length≤1000000)(hcl: ∀f,(ar x f).length≤10000)(hls:c.ls.length≤10000)(hnm: ∀l∈c.ls,l.n.length≤1000000)(hvm: ∀l∈c.ls,l.v.length≤1000000):
    aa Tryz.prog 40 [aS c,.agg (x.map av)] (.ret (.agg [.str c.ver,.vsl 5 false ((c.ls.map (fun l=>(l,false))++eH x (xsP c.ls)).map bV)])):=by
  obtain⟨ver,fx,ls⟩:=c;have hLh:=aN ls;have hxh:=aJ x;simp only[aS]at hls hnm hvm ⊢;have hz8:bZ Tryz.prog 27=some (.agg bK):=FK;rw[←zZ (a:=iD ls 8 0) (b:=xsP ls) fun f hf=>CA ls f hf];refine aa.of Tryz.func40 rfl (ab enters Tryz.func40 rfl) (by simp[Tryz.ntmps40]) ?_;show W Tryz.prog 134 0 none (.seq (.region 0 _ _) (.seq (.region 1 _ _) (.seq (.seq (.region 2 _ _) (.block 0 (.loop J6))) E6))) _ _;generalize hL:ls.map aq=L at hLh;generalize hX:x.map av=X at hxh;refine .seq (.vc (by decide) ?_)
  repeat'(first|(simp(disch:=first|omega|(simp only[zL];omega))only[go_sem,seval]))
  refine .seq (.vc (by decide) ?_)
  repeat'(first|(simp(disch:=first|omega|(simp only[zL];omega))only[go_sem,seval,hz8]))
  refine .seq (.vc (by decide) ?_)
  repeat'(first|(simp(disch:=first|omega|(simp only[zL];omega))only[go_sem,seval]))
  subst hL;subst hX;refine E5 (Z:=[.str [],.nilsl]) hls hnm hvm ⟨rfl,rfl,rfl,rfl,rfl,trivial⟩ rfl rfl (fun T H vs hT g0 g1 g2 hc=> ?_);simp only[ak];obtain⟨us,f1,f2,f3⟩:=vb hc;have hown: ∀(f:Nat) (v:AV),vs[f]? =some v→v=.nilsl∨v=.vsl 0 true []∨ ∃d n,v=.sl d 0 n 0:=fun f v hvf=>by
    rcases hc.own f v hvf with⟨_,h|h⟩|⟨d,h,_⟩
    · exact .inl h
    · exact .inr (.inl h)
    · exact .inr (.inr ⟨d,_,h⟩)
  have hkeep: ∀(j:Nat) (o:OB),j≠3→H[j]? =some o→(∀cs,o≠OB.cells cs true)→(cy (3::cF vs) 0 H)[j]? =some o:=fun j o hj ho hno=>by
    rw[iA]
    · exact ho
    · intro hm
      rcases List.mem_cons.1 hm with e|e
      · exact hj e
      · exact iX (hc.free ho hno) hown e
  obtain⟨t2,t3,t4,t5,_⟩:=hT;refine W.FD (3::cF vs) [(2,.ptr 0 0),(3,.ptr 1 0),(4,.ptr 2 0),(5,.vptr us)] ⟨.inl t2,.inl t3,.inl t4,.inr ⟨_,by rw[t5];exact f1,.refl _⟩,trivial⟩ ?_;exact H7 ⟨hkeep 0 _ (by omega) g0 (fun cs e=>by cases e),hkeep 1 _ (by omega) g1 (fun cs e=>by cases e),hkeep 2 _ (by omega) g2 (fun cs e=>by cases e),.inl ⟨rfl,0,rfl⟩⟩ hx hcb hcl (by omega) f2 f3 ⟨rfl,rfl,rfl,rfl,trivial⟩
def vi(c:Cd)(x:List Val):List (Ln×Bool):=c.ls.map (fun l=>(l,false))++eH x (xsP c.ls)
def jh(c:Cd)(x:List Val):Cd:=⟨c.ver,false,(vi c x).map (·.1)⟩
theorem Aa(c:Cd)(x:List Val):∀q∈vi c x,q.2=true→q.1.ps=[]:=by
 intro q hq h;unfold vi eH fA dM at hq;rcases List.mem_append.1 hq with hq|hq
 ·obtain⟨l,_,rfl⟩:=List.mem_map.1 hq;cases h
 ·rcases List.mem_append.1 hq with hq|hq
  ·rcases List.mem_append.1 hq with hq|hq
   ·split at hq
    ·simp at hq;subst hq;rfl
    ·cases hq
   ·split at hq
    ·simp at hq;subst hq;rfl
    ·cases hq
  ·obtain⟨i,_,h1⟩:=List.mem_flatMap.1 hq
   unfold bC at h1;split at h1
   ·obtain⟨v,_,rfl⟩:=List.mem_map.1 h1;rfl
   ·cases h1
theorem FO(c:Cd)(x:List Val)(hx:x.length=8)(hcb: ∀f,f<8→ ∀s∈ar x f,s.length≤1000000)(hcl: ∀f,(ar x f).length≤10000)(hls:c.ls.length≤10000)(hnm: ∀l∈c.ls,l.n.length≤1000000)(hvm: ∀l∈c.ls,l.v.length≤1000000):
    aa Tryz.prog 40 [aS c,.agg (x.map av)] (.ret (aS (jh c x))):=
  aa.FN (H8 c x hx hcb hcl hls hnm hvm) (.agg (.cons (.refl _) (.cons (.elems (pV _ (Aa c x))) .nil)))
def lg(c:Cd)(x:List Val):Cd:=jh ⟨c.ver,false,cV x c.ls⟩ x
noncomputable def LK:Code:=match Tryz.f29.body with
 |some (.seq _ (.seq _ (.seq (.seq _ (.block _ (.loop c))) _)))=>c
 |_=>.skip
theorem Ab{H:List OB}{ov:AV}{ver:Bytes}{x:List Val}{ls:List Ln}(h:na H ov (ls.map fun l=>(l,false))):∃u S,[.agg [.str ver,ov],.agg (x.map av)].mapM (fz (bH S 0 H) 20)=some [.agg [.str ver,u],.agg (x.map av)]∧Le u (.vsl 5 false (ls.map aq))∧∀j,j∈S→∃n,ov=.sl j 0 n 5:=by
 have hx:fz (bH [] 0 H) 20 (.agg (x.map av))=some (.agg (x.map av)):=cJ (by simp[AV.hf,aJ]);have hm:(ls.map fun l=>(l,false)).map bV=ls.map aq:=by rw[List.map_map];rfl
 rcases h with⟨e,rfl⟩|⟨d,rfl,hd⟩
 ·rw[List.map_eq_nil_iff]at e
  subst e;refine⟨.nilsl,[],?_,.nils _ _,by simp⟩;simp only[List.mapM_cons,List.mapM_nil,hx,cJ (show AV.hf (.agg [.str ver,.nilsl])=true from rfl)];rfl
 ·have hk:(bH [d] 0 H)[d]? =some (.cells (aU bV (ls.map fun l=>(l,false))) true):=by rw[ij];simp[hd]
  obtain⟨u,h1,h2⟩:=ob (k:=18) (n:=4) (f:=bV) (by decide) (fun q=>⟨_,rfl,rfl⟩) (fun q=>by have:=sW q;rw[bV,AV.hf]at this;exact this) (.inr ⟨d,rfl,hk⟩);rw[hm]at h2;refine⟨u,[d],?_,h2,fun j hj=>⟨(ls.map fun l=>(l,false)).length,(congrArg (fun j=>AV.sl j 0 (ls.map fun l=>(l,false)).length 5) (show d=j from(by simpa using hj:j=d).symm))⟩⟩;have hx2:fz (bH [d] 0 H) 20 (.agg (x.map av))=some (.agg (x.map av)):=cJ (by simp[AV.hf,aJ])
  have:fz (bH [d] 0 H) 20 (.agg [.str ver,.sl d 0 (ls.map fun l=>(l,false)).length 5])=some (.agg [.str ver,u]):=kO (by
   simp only[List.mapM_cons,List.mapM_nil,cJ (show AV.hf (.str ver)=true from rfl),h1];rfl)
  simp only[List.mapM_cons,List.mapM_nil,hx2,this];rfl
set_option maxRecDepth 8000 in
theorem J9 (c:Cd) (x:List Val) (hx:x.length=8) (hcb: ∀f,f<8→ ∀s∈ar x f,s.length≤1000000) (hcl: ∀f,(ar x f).length≤10000) (hls:c.ls.length≤10000) (hnm: ∀l∈c.ls,l.n.length≤1000000) (hvm: ∀l∈c.ls,l.v.length≤1000000) (hnm2: ∀l∈cV x c.ls,l.n.length≤1000000) (hvm2: ∀l∈cV x c.ls,l.v.length≤1000000):
    aa Tryz.prog 29 [aS c,.agg (x.map av)] (.ret (aS (lg c x))):=by
  have hkl:=rz x c.ls;have hnw:=FO ⟨c.ver,false,cV x c.ls⟩ x hx hcb hcl (by simp only;omega) hnm2 hvm2;rw[show jh ⟨c.ver,false,cV x c.ls⟩ x=lg c x from rfl]at hnw;have hoh:=aN (lg c x).ls;generalize lg c x=o at*;obtain⟨ver,fx,ls⟩:=c;obtain⟨over,ofx,ols⟩:=o;have hLh:=aN ls;have hxh:=aJ x;simp only[aS]at hls hnm hvm hnm2 hvm2 hnw hoh hkl ⊢;obtain⟨L,hL⟩: ∃L,L=ls.map aq:=⟨_,rfl⟩
  have hLl:L.length=ls.length:=by rw[hL];simp
  rw[←hL]at hLh ⊢;generalize hOL:ols.map aq=OL at*;have hlnL: ∀X,aI Tryz.prog 22 (.vsl 5 fx L) X=some (.int .i64 ls.length):=by intro X;simp[aI,Tryz.underlying22,hLl]
  refine aa.of Tryz.func29 rfl (ab enters Tryz.func29 rfl) (by simp[Tryz.ntmps29]) ?_;show W Tryz.prog 39 0 none (.seq (.region 0 _ _) (.seq (.region 1 _ _) (.seq (.seq (.region 2 _ _) (.block 0 (.loop LK))) (.seq (.region 8 _ _) .ret)))) _ _;have hbv:cB Tryz.prog 24 [(0,.str ver)]=some (.agg [.str ver,.nilsl]):=by kernel_rfl
  obtain⟨X,hX⟩: ∃X,X=x.map av:=⟨_,rfl⟩
  rw[←hX]at hxh ⊢;refine .seq (.vc (by decide) ?_)
  repeat'(first|(simp(disch:=first|omega|(simp only[zL];omega))only[go_sem,seval]))
  refine .seq (.vc (by decide) ?_)
  repeat'(first|(simp(disch:=first|omega|(simp only[zL];omega))only[go_sem,seval,hbv]))
  refine .seq (.vc (by decide) ?_)
  repeat'(first|(simp(disch:=first|omega|(simp only[zL];omega))only[go_sem,seval]))
  rw[hX]
  refine W.loop (X:=Nat) (fun i a=> ∃ov,aB a.T [(6,.int .i64 (i:Int)),(2,.ptr 0 0),(3,.ptr 1 0),(4,.ptr 2 0),(5,.ptr 3 0)]∧a.H[0]? =some (.cells [.str ver,.vsl 5 fx L] false)∧a.H[1]? =some (.cells (x.map av) false)∧a.H[2]? =some (.cells [.str [],.nilsl] false)∧a.H[3]? =some (.cells [.str ver,ov] false)∧na a.H ov ((cV x (ls.take i)).map fun l=>(l,false))∧a.D=[]∧i≤ls.length) (fun i=>ls.length - i) 0
    ⟨.nilsl,⟨rfl,rfl,rfl,rfl,rfl,trivial⟩,rfl,rfl,rfl,rfl,.inl ⟨rfl,rfl⟩,rfl,Nat.zero_le _⟩ ?_
  rintro i ⟨T,H,D⟩ ⟨ov,hT,g0,g1,g2,g3,ho,rfl,hi⟩;simp only at hT g0 g1 g2 g3 ho;refine W.bQ _ hT ?_;show W Tryz.prog 39 0 none (.seq (.seq (.region 3 _ _) _) (.seq (.block 1 (.seq (.region 5 _ _) _)) _)) _ _;have hld: ∀K:List OB,K[0]? =some (.cells [.str ver,.vsl 5 fx L] false)→al Tryz.prog 22 (.ptr 0 1) K=some (.vsl 5 fx L):=fun K hK=>by simp[kA,ldC,hK]
  have hld0:=hld H g0;have hldx:=fu g1 hx;by_cases h:i<ls.length
  · obtain ⟨l,hl,_⟩:=drop_at h
    have hil: ∀X,ah Tryz.prog 22 (.vsl 5 fx L) (.int .i64 (i:Int)) X=some (.vptr [.str l.g,.str l.n,.vsl 3 l.x (l.ps.map aH),.str l.v]):=fun X=>jj (v:=aq l) (by rw[hL];simp[hl]) rfl X;have hln:=H0 l x hx (hnm l (List.mem_of_getElem? hl)) (hvm l (List.mem_of_getElem? hl)) hcb;have hkt:=xc (x:=x) hl;have hkn:=rz x (ls.take i);obtain⟨m,hm⟩: ∃m,m=(lnC x l).1:=⟨_,rfl⟩
    rw[←hm]at hln hkt;have hst:=ta (A:=H) m;obtain⟨E,hE⟩: ∃E,E=OB.cells [.str m.g,.str m.n,.vsl 3 m.x (m.ps.map aH),.str m.v] false:=⟨_,rfl⟩
    rw[←hE]at hst;have hld1:=hld (H++[E]) (aV g0);have hld2:=hld (H++[.cells [.str [],.str [],.nilsl,.str []] false]) (aV g0);have hldx1:=fu (A:=H++[E]) (aV g1) hx;have hldx2:=fu (A:=H++[.cells [.str [],.str [],.nilsl,.str []] false]) (aV g1) hx;have hrh:=az l.ps;rw[mr l]at hln;cases hb:(lnC x l).2 with
    | false=>
      rw[hb]at hln hkt;simp only[Bool.false_eq_true,if_false,List.append_nil]at hkt;have hcl: ∀K,ji Tryz.prog (.fn 67) [.agg [.str l.g,.str l.n,.vsl 3 l.x (l.ps.map aH),.str l.v],.agg (x.map av)] K (.ret (.tup [aq m,.bool false])) K:=fun K=>aa.sh (by unfold aX;rw[if_pos (by simp[AV.hfs,AV.hf,hrh,aJ])]) hln;generalize l.ps.map aH=P at*;generalize aq m=Q at*;refine .vc (by decide) ?_
      repeat'(first|(simp(disch:=first|omega|(simp only[zL];omega))only[go_sem,seval,hlnL,hld0]))
      refine W.FC [10,11] [false,false,false,false,false,false,false,false,false,false,true,true,false] [(1,11),(3,11),(4,11),(5,11),(6,11)] mixed (by kernel_rfl) (by kernel_rfl) (by kernel_rfl) ?_
      repeat'(first|(simp(disch:=first|omega|(simp only[zL];omega))only[go_sem,seval,wy,hld0,hld1,hld2,hldx,hldx1,hldx2,hil,hst])|((with_reducible first|apply aj.pure|apply an.pure);(with_reducible exact hln);(first|rfl|simp only[go_sem,hrh,aJ])))
      refine⟨⟨.inl trivial,.inl trivial,.inl trivial,.inl trivial,.inr ⟨_,_,rfl,hcl _⟩⟩,?_⟩;exact⟨i+1,⟨ov,⟨rfl,rfl,rfl,rfl,rfl,trivial⟩,aV g0,aV g1,aV g2,aV g3,by rw[hkt];exact ho.fm fun d n e=>(by obtain⟨cs,hc⟩:=ho.lt e;rw[hc];exact aV hc),h⟩,by omega⟩
    | true =>
      rw[hb]at hln hkt;simp only[if_true]at hkt;have hcl: ∀K,ji Tryz.prog (.fn 67) [.agg [.str l.g,.str l.n,.vsl 3 l.x (l.ps.map aH),.str l.v],.agg (x.map av)] K (.ret (.tup [aq m,.bool true])) K:=fun K=>aa.sh (by unfold aX;rw[if_pos (by simp[AV.hfs,AV.hf,hrh,aJ])]) hln;have hoE:na (H++[E]) ov ((cV x (ls.take i)).map fun l=>(l,false)):=ho.fm fun d n e=>(by obtain⟨cs,hc⟩:=ho.lt e;rw[hc];exact aV hc);have hs:kN 5 bV (H++[E]) (deN ov) ((cV x (ls.take i)).map fun l=>(l,false)):=by
        rcases hoE with⟨e,rfl⟩|⟨d,rfl,hd⟩
        · exact .inl ⟨e,0,rfl⟩
        · exact .inr ⟨d,rfl,hd⟩
      obtain⟨M,hap,hlen,hnew,hold⟩:=il (P:=Tryz.prog) (sT:=22) (wd:=5) Tryz.underlying22 za bV iB jN (by decide) hs (m,false) true (by simp at hkn ⊢;omega);have hk: ∀(j:Nat) (o:OB),H[j]? =some o→(∀cs,o≠OB.cells cs true)→M[j]? =some o:=fun j o hj hno=>by
        rw[hold j (by have:=(List.getElem?_eq_some_iff.1 hj).1;simp;omega) fun e=> ?_]
        · exact aV hj
        · rcases hoE with⟨_,e2⟩|⟨d,e2,hd⟩
          · rw[e2]at e;cases e
          · rw[e2]at e;cases e
            rw[aV hj]at hd;exact hno _ (Option.some.inj hd)
      have l3:=(List.getElem?_eq_some_iff.1 g3).1;have q3:=hk 3 _ g3 (fun cs e=>by cases e);have k1:al Tryz.prog 22 (.ptr 3 1) (H++[E])=some ov:=by simp[kA,ldC,aV g3]
      have k2:al Tryz.prog 46 (.ptr H.length 0) (H++[E])=some (aq m):=by
        simp only[vZ,ldG,hE,List.getElem?_concat_length];rfl
      have k3:=uU (m,false);rw[sX]at k3 hap;have hlq:((cV x (ls.take i)).map fun l=>(l,false)).length=(cV x (ls.take i)).length:=by simp
      obtain⟨v2,hv2⟩: ∃v2,v2=AV.sl (H++[E]).length 0 (((cV x (ls.take i)).map fun l=>(l,false)).length+1) 5:=⟨_,rfl⟩
      rw[←hv2]at hap;have k4:aE Tryz.prog 22 (.ptr 3 1) v2 M=some (M.set 3 (.cells [.str ver,v2] false)):=by
        rw[Ds,hv2];simp[stC,q3,AV.cells,AV.isC,cm]
      have hde:deN v2=v2:=by rw[hv2];rfl
      generalize hP0:l.ps.map aH=P at*;generalize hQ0:aq m=Q at*;refine .vc (by decide) ?_
      repeat'(first|(simp(disch:=first|omega|(simp only[zL];omega))only[go_sem,seval,hlnL,hld0]))
      refine W.FC [10,11] [false,false,false,false,false,false,false,false,false,false,true,true,false] [(1,11),(3,11),(4,11),(5,11),(6,11)] mixed (by kernel_rfl) (by kernel_rfl) (by kernel_rfl) ?_
      repeat'(first|(simp(disch:=first|omega|(simp only[zL];omega))only[go_sem,seval,wy,hld0,hld1,hld2,hldx,hldx1,hldx2,hil,hst,k1,k2,k3,k4,hap,hde])|((with_reducible first|apply aj.pure|apply an.pure);(with_reducible exact hln);(first|rfl|simp only[go_sem,hrh,aJ])))
      refine⟨⟨.inl trivial,.inl trivial,.inl trivial,.inl trivial,.inr ⟨_,_,rfl,hcl _⟩⟩,?_⟩;refine⟨i+1,⟨v2,⟨rfl,rfl,rfl,rfl,rfl,trivial⟩,?_,?_,?_,?_,?_,h⟩,by omega⟩
      · rw[List.getElem?_set_ne (by omega)];exact hk 0 _ g0 (fun cs e=>by cases e)
      · rw[List.getElem?_set_ne (by omega)];exact hk 1 _ g1 (fun cs e=>by cases e)
      · rw[List.getElem?_set_ne (by omega)];exact hk 2 _ g2 (fun cs e=>by cases e)
      · rw[List.getElem?_set_self (by simp at hlen;omega)]
      · rw[hkt,List.map_append]
        refine .inr ⟨(H++[E]).length,by rw[hv2];simp,?_⟩;rw[List.getElem?_set_ne (by simp;omega)];exact hnew
  · have e:i=ls.length:=by omega
    subst e;rw[List.take_length]at ho;obtain⟨u,S,hgv,hle,hS⟩:=Ab (ver:=ver) (x:=x) ho;have hnw2:=aa.le (.cons _ _ _ _ (.agg _ _ (.cons _ _ _ _ (.refl _) (.cons _ _ _ _ hle .nil))) (.cons _ _ _ _ (.refl _) .nil)) hnw;have hk: ∀(j:Nat) (o:OB),H[j]? =some o→(∀cs,o≠OB.cells cs true)→(cy S 0 H)[j]? =some o:=fun j o hj hno=>by
      rw[iA]
      · exact hj
      · intro hm
        obtain⟨n,e⟩:=hS j hm;obtain⟨cs,hc⟩:=ho.lt e;rw[hj]at hc;exact hno _ (Option.some.inj hc)
    have q2:=hk 2 _ g2 (fun cs e=>by cases e);have l2:=(List.getElem?_eq_some_iff.1 q2).1;have k1:al Tryz.prog 24 (.ptr 3 0) H=some (.agg [.str ver,ov]):=by simp[tZ,ldG,g3]
    have k2:aE Tryz.prog 24 (.ptr 2 0) (.agg [.str over,.vsl 5 ofx OL]) (cy S 0 H)=some ((cy S 0 H).set 2 (.cells [.str over,.vsl 5 ofx OL] false)):=by
      rw[Dt];simp[stC,q2,AV.cells,AV.isC,cm]
    refine .vc (by decide) ?_
    repeat'(first|(simp(disch:=first|omega|(simp only[zL];omega))only[go_sem,seval,hlnL,hld0]))
    refine .vc (by decide) ?_
    repeat'(first|(simp(disch:=first|omega|(simp only[zL];omega))only[go_sem,seval,hldx,k1,k2])|(guard_target=~ aj _ _ _ _ _ _ _;refine aj.vT S _ hnw2 hgv ?_))
    refine ui (a1:=⟨_,_,[]⟩) (v:=.agg [.str over,.vsl 5 ofx OL]) rfl (wv 4 24 ?_) (cJ (by simp[AV.hf,AV.hfs,hoh])) (.refl _);show al _ _ (.ptr 2 0) _=_;simp[tZ,ldG,List.getElem?_set_self l2]
theorem Ac{ws cs:List Bytes}{b v:Nat}(hw:ws.length≤2)(hb:∀w∈ws,w.length≤b)(hc:(Lib.join cs [59]).length≤v):(Lib.join (bz ws cs) [59]).length≤4*b+v+3:=by
 have h1:=qf [59] (ws.map esc) (cs.drop ws.length);have h2:=qe [59] (cs.take ws.length) (cs.drop ws.length);rw[List.take_append_drop]at h2;have h3:=iz [59] (ws.map esc)
 have h4:=iy (l:=ws.map esc) (b:=2*b) (by
  intro p hp;obtain⟨w,hw1,rfl⟩:=List.mem_map.1 hp;have:=gD w;have:=hb w hw1;omega)
 simp only[List.length_map,List.length_cons,List.length_nil]at h1 h3 h4;have h5:2*b*ws.length≤2*b*2:=Nat.mul_le_mul_left _ hw;unfold bz;omega
theorem CG(k:Kd)(v:Bytes):(Lib.join (dn k v) [59]).length≤v.length:=by
 unfold dn;split
 ·rw[show aY 59 v=aQ 59 false [] v from rfl,eS,List.nil_append];exact Nat.le_refl _
 ·simp[Lib.join,List.intercalate]
theorem CH{m:Bytes}{k:Kd}(hk:aD m=some k)(l:Ln)(x:List Val){b:Nat}(hb:∀f,f<8→∀s∈ar x f,s.length≤b):(cK l k x).1.n=l.n∧(cK l k x).1.v.length≤4*b+l.v.length+3:=by
 obtain⟨k1,k2,_,_,_⟩:=gH hk;unfold cK;split
 ·exact⟨rfl,by show l.v.length≤_;omega⟩
 ·split
  ·exact⟨rfl,by show l.v.length≤_;omega⟩
  ·exact⟨rfl,Ac (by simpa[bw]using k1) (pY k2 hb) (CG k l.v)⟩
theorem H9(l:Ln)(x:List Val){b:Nat}(hb:∀f,f<8→∀s∈ar x f,s.length≤b):(lnC x l).1.n=l.n∧(lnC x l).1.v.length≤4*b+l.v.length+3:=by
 unfold lnC;cases hk:aD (small l.n)with
 |none=>exact⟨rfl,by show l.v.length≤_;omega⟩
 |some k=>exact CH hk l x hb
theorem E7{x:List Val}(h:br (ar x)=true):∀f,f<8→∀s∈ar x f,s.length≤200:=by
 unfold br at h;simp only[Bool.and_eq_true,List.all_eq_true,List.mem_range]at h;intro f hf s hs;have:=h.1 f hf;simp only[dp,Bool.and_eq_true,List.all_eq_true,decide_eq_true_eq]at this;have:=this.2.1 s hs;simp only[eO,Bool.and_eq_true,decide_eq_true_eq]at this;omega
theorem vj{x:List Val}{ls:List Ln}(hx:br (ar x)=true)(h:∀l∈ls,l.v.length≤4000∧l.n.length≤64):∀l∈cV x ls,l.n.length≤1000000∧l.v.length≤1000000:=by
 intro l hl;obtain⟨m,hm,h1⟩:=List.mem_flatMap.1 hl;split at h1
 ·simp at h1
  subst h1;obtain⟨e1,e2⟩:=H9 m x (E7 hx);have:=h m hm;exact⟨by rw[e1];omega,by omega⟩
 ·cases h1
def kI(c:Cd)(x:List Val):Cd×Nat:=
 if aL c=0∧br (ar x)=true then(if(ofR c).2=0 then(if aL (lg c x)=0 then(lg c x,0)else(fw,3))else(fw,(ofR c).2))else(fw,2)
def qg(x:List Val):Cd×Nat:=
 if br (ar x)=true then(if aL (jh ⟨ia,true,[]⟩ x)=0 then(jh ⟨ia,true,[]⟩ x,0)else(fw,3))else(fw,2)
set_option maxRecDepth 8000 in
theorem Ia(c:Cd)(x:List Val)(hx:x.length=8):aa Tryz.prog 13 [aS c,.agg (x.map av)] (.ret (.tup [aS (kI c x).1,.int .i64 ((kI c x).2:Nat)])):=by
 have hck:=td c;have hcv:=pG x hx;have hof:=J3 c;have ho:kI c x=if aL c=0∧br (ar x)=true then(if(ofR c).2=0 then(if aL (lg c x)=0 then(lg c x,0)else(fw,3))else(fw,(ofR c).2))else(fw,2):=rfl
 have hly:aL c=0→br (ar x)=true→aa Tryz.prog 29 [aS c,.agg (x.map av)] (.ret (aS (lg c x))):=fun h1 h2=>
  J9 c x hx (gJ hx h2).1 (gJ hx h2).2 (by have:=(ey h1).1;omega) (fun l hl=>by have:=((ey h1).2 l hl).2;omega) (fun l hl=>by have:=((ey h1).2 l hl).1;omega) (fun l hl=>(vj h2 (ey h1).2 l hl).1) (fun l hl=>(vj h2 (ey h1).2 l hl).2)
 have hck2:=td (lg c x);have hoh:=aJ (bc (ofR c).1);have hlen:((bc (ofR c).1).map av).length=8:=by rw[List.length_map,bM]
 have hoc:=fo (bc (ofR c).1);generalize lg c x=o at*;generalize kI c x=r at*;obtain⟨ver,fx,ls⟩:=c;obtain⟨over,ofx,ols⟩:=o;have hLh:=aN ls;have hOh:=aN ols;have hxh:=aJ x;have hxc:(x.map av).length=8:=by simp[hx]
 simp only[aS]at hck hck2 hly hof ho ⊢;generalize hL:ls.map aq=L at*;generalize hOL:ols.map aq=OL at*;generalize hX:x.map av=X at*;generalize hE:(ofR ⟨ver,fx,ls⟩).2=E at*;generalize(bc (ofR ⟨ver,fx,ls⟩).1).map av=Y at*;have hldx:∀A Z,al Tryz.prog 27 (.ptr 1 0) (A::.cells X false::Z)=some (.agg X):=by
  intro A Z;simp[gQ,ldG,hxc];exact List.take_of_length_le (by omega)
 have hsty:∀A B C,aE Tryz.prog 27 (.ptr 3 0) (.agg Y) [A,B,C,.cells [.nilsl,.nilsl,.nilsl,.nilsl,.nilsl,.nilsl,.nilsl,.nilsl] false]=some [A,B,C,.cells Y false]:=by
  intro A B C;exact dZ (vs:=bK) rfl rfl hlen hoc rfl
 by_cases h0:aL ⟨ver,fx,ls⟩=0
 case neg=>
  rw[if_neg (fun h=>h0 h.1)]at ho;subst ho;have hb:((aL ⟨ver,fx,ls⟩:Nat):Int)≠0:=by omega
  refine aa.of Tryz.func13 rfl (ab enters Tryz.func13 rfl) (by simp[Tryz.ntmps13]) ?_;show W Tryz.prog 35 0 none _ _ _;refine W.vc (by decide) ?_
  repeat'(first|(simp(disch:=first|omega|(simp only[zL];omega))only[go_sem,seval,hldx,hsty,hb,kD])|((with_reducible first|apply aj.pure|apply an.pure);(with_reducible assumption);(first|rfl|simp only[go_sem,hLh,hxh])))
  exact dD 4 5 2 rfl rfl rfl rfl rfl rfl (dR true _)
 rw[h0]at hck;by_cases h1:br (ar x)=true
 case neg=>
  rw[if_neg (fun h=>h1 h.2)]at ho;subst ho;have h1':br (ar x)=false:=by simpa using h1
  rw[h1']at hcv;refine aa.of Tryz.func13 rfl (ab enters Tryz.func13 rfl) (by simp[Tryz.ntmps13]) ?_;show W Tryz.prog 35 0 none _ _ _;refine W.vc (by decide) ?_
  repeat'(first|(simp(disch:=first|omega|(simp only[zL];omega))only[go_sem,seval,hldx,hsty,kD])|((with_reducible first|apply aj.pure|apply an.pure);(with_reducible assumption);(first|rfl|simp only[go_sem,hLh,hxh])))
  exact dD 4 5 2 rfl rfl rfl rfl rfl rfl (dR true _)
 rw[h1]at hcv;rw[if_pos ⟨h0,h1⟩]at ho;have hly:=hly h0 h1;by_cases h2:E=0
 case neg=>
  rw[if_neg h2]at ho;subst ho;have hb:((E:Nat):Int)≠0:=by omega
  refine aa.of Tryz.func13 rfl (ab enters Tryz.func13 rfl) (by simp[Tryz.ntmps13]) ?_;show W Tryz.prog 35 0 none _ _ _;refine W.vc (by decide) ?_
  repeat'(first|(simp(disch:=first|omega|(simp only[zL];omega))only[go_sem,seval,hldx,hsty,hb,kD])|((with_reducible first|apply aj.pure|apply an.pure);(with_reducible assumption);(first|rfl|simp only[go_sem,hLh,hxh])))
  exact dD 4 5 2 rfl rfl rfl rfl rfl rfl (dR true _)
 rw[if_pos h2]at ho;rw[h2]at hof;by_cases h3:aL ⟨over,ofx,ols⟩=0
 case neg=>
  rw[if_neg h3]at ho;subst ho;have hb:((aL ⟨over,ofx,ols⟩:Nat):Int)≠0:=by omega
  refine aa.of Tryz.func13 rfl (ab enters Tryz.func13 rfl) (by simp[Tryz.ntmps13]) ?_;show W Tryz.prog 35 0 none _ _ _;refine W.vc (by decide) ?_
  repeat'(first|(simp(disch:=first|omega|(simp only[zL];omega))only[go_sem,seval,hldx,hsty,hb,kD])|((with_reducible first|apply aj.pure|apply an.pure);(with_reducible assumption);(first|rfl|simp only[go_sem,hLh,hxh,hOh])))
  exact dD 4 5 2 rfl rfl rfl rfl rfl rfl (dR true _)
 rw[if_pos h3]at ho;rw[h3]at hck2;subst ho;simp only[hOL];refine aa.of Tryz.func13 rfl (ab enters Tryz.func13 rfl) (by simp[Tryz.ntmps13]) ?_;show W Tryz.prog 35 0 none _ _ _;refine W.vc (by decide) ?_
 repeat'(first|(simp(disch:=first|omega|(simp only[zL];omega))only[go_sem,seval,hldx,hsty,kD])|((with_reducible first|apply aj.pure|apply an.pure);(with_reducible assumption);(first|rfl|simp only[go_sem,hLh,hxh,hOh])))
 exact dD 4 5 2 rfl rfl rfl rfl rfl (by simp[AV.hfs,AV.hf,hOh]) (.refl _)
set_option maxRecDepth 8000 in
theorem Ka(x:List Val)(hx:x.length=8):aa Tryz.prog 21 [.agg (x.map av)] (.ret (.tup [aS (qg x).1,.int .i64 ((qg x).2:Nat)])):=by
 have hcv:=pG x hx;have ho:qg x=if br (ar x)=true then(if aL (jh ⟨ia,true,[]⟩ x)=0 then(jh ⟨ia,true,[]⟩ x,0)else(fw,3))else(fw,2):=rfl
 have hly:br (ar x)=true→aa Tryz.prog 40 [.agg [.str [52,46,48],.nilsl],.agg (x.map av)] (.ret (aS (jh ⟨ia,true,[]⟩ x))):=fun h2=>
  aa.le (.cons _ _ _ _ (.agg _ _ (.cons _ _ _ _ (.refl _) (.cons _ _ _ _ (.nils _ _) .nil))) (.cons _ _ _ _ (.refl _) .nil)) (FO ⟨ia,true,[]⟩ x hx (gJ hx h2).1 (gJ hx h2).2 (by simp) (fun l hl=>by cases hl) (fun l hl=>by cases hl))
 have hck2:=td (jh ⟨ia,true,[]⟩ x);generalize jh ⟨ia,true,[]⟩ x=o at*;generalize qg x=r at*;obtain⟨over,ofx,ols⟩:=o;have hOh:=aN ols;have hxh:=aJ x;have hxc:(x.map av).length=8:=by simp[hx]
 simp only[aS]at hck2 hly ho ⊢;generalize hOL:ols.map aq=OL at*;generalize hX:x.map av=X at*;have hldx:∀Z,al Tryz.prog 27 (.ptr 0 0) (.cells X false::Z)=some (.agg X):=by
  intro Z;simp[gQ,ldG,hxc];exact List.take_of_length_le (by omega)
 have hbv:cB Tryz.prog 24 [(0,.str [52,46,48])]=some (.agg [.str [52,46,48],.nilsl]):=by kernel_rfl
 by_cases h1:br (ar x)=true
 case neg=>
  rw[if_neg h1]at ho;subst ho;have h1':br (ar x)=false:=by simpa using h1
  rw[h1']at hcv;refine aa.of Tryz.func21 rfl (ab enters Tryz.func21 rfl) (by simp[Tryz.ntmps21]) ?_;show W Tryz.prog 17 0 none _ _ _;refine W.vc (by decide) ?_
  repeat'(first|(simp(disch:=first|omega|(simp only[zL];omega))only[go_sem,seval,hldx,kD])|((with_reducible first|apply aj.pure|apply an.pure);(with_reducible exact hcv);(first|rfl|simp only[go_sem,hxh])))
  exact dD 2 3 1 rfl rfl rfl rfl rfl rfl (dR true _)
 rw[h1]at hcv;rw[if_pos h1]at ho;have hly:=hly h1;by_cases h3:aL ⟨over,ofx,ols⟩=0
 case neg=>
  rw[if_neg h3]at ho;subst ho;have hb:((aL ⟨over,ofx,ols⟩:Nat):Int)≠0:=by omega
  refine aa.of Tryz.func21 rfl (ab enters Tryz.func21 rfl) (by simp[Tryz.ntmps21]) ?_;show W Tryz.prog 17 0 none _ _ _;refine W.vc (by decide) ?_
  repeat'(first|(simp(disch:=first|omega|(simp only[zL];omega))only[go_sem,seval,hldx,hb,kD,hbv])|((with_reducible first|apply aj.pure|apply an.pure);(with_reducible assumption);(first|rfl|simp only[go_sem,hxh,hOh])))
  exact dD 2 3 1 rfl rfl rfl rfl rfl rfl (dR true _)
 rw[if_pos h3]at ho;rw[h3]at hck2;subst ho;simp only[hOL];refine aa.of Tryz.func21 rfl (ab enters Tryz.func21 rfl) (by simp[Tryz.ntmps21]) ?_;show W Tryz.prog 17 0 none _ _ _;refine W.vc (by decide) ?_
 repeat'(first|(simp(disch:=first|omega|(simp only[zL];omega))only[go_sem,seval,hldx,kD,hbv])|((with_reducible first|apply aj.pure|apply an.pure);(with_reducible assumption);(first|rfl|simp only[go_sem,hxh,hOh])))
 exact dD 2 3 1 rfl rfl rfl rfl rfl (by simp[AV.hfs,AV.hf,hOh]) (.refl _)
theorem xd(ls:List Ln){f:Nat}(hf:f<8):xO ls f=xR ls f:=by
 unfold xO xsO xR uK;by_cases h:f<6
 ·rw[if_neg (by omega),if_pos h]
 ·rw[if_pos (by omega),if_neg h,BF]
theorem vk(n:Bytes):∀(ls:List Ln) (acc:List Bytes),n∈ls.foldl pS acc↔n∈acc∨∃l∈ls,small l.n=n∧(aD n).isSome=true
 | [],acc=>by simp
 | l::ls,acc=>by
  rw[List.foldl_cons,vk n ls];have h1:n∈pS acc l↔n∈acc∨(small l.n=n∧(aD n).isSome=true):=by
   unfold pS;cases hk:aD (small l.n)with
   | none=>
    constructor
    ·exact .inl
    ·rintro(h|⟨h,h2⟩)
     ·exact h
     ·rw[←h,hk]at h2;cases h2
   | some k=>
    simp only;split
    ·rename_i hm
     constructor
     ·exact .inl
     ·rintro(h|⟨h,_⟩)
      ·exact h
      ·rw[←h];exact hm
    ·rw[List.mem_append,List.mem_singleton]
     constructor
     ·rintro(h|h)
      ·exact .inl h
      ·exact .inr ⟨h.symm,by rw[h,hk];rfl⟩
     ·rintro(h|⟨h,_⟩)
      ·exact .inl h
      ·exact .inr h.symm
  rw[h1];constructor
  ·rintro((h|h)|⟨m,hm,h⟩)
   ·exact .inl h
   ·exact .inr ⟨l,by simp,h⟩
   ·exact .inr ⟨m,by simp[hm],h⟩
  ·rintro(h|⟨m,hm,h⟩)
   ·exact .inl (.inl h)
   ·rcases List.mem_cons.1 hm with rfl|hm
    ·exact .inl (.inr h)
    ·exact .inr ⟨m,hm,h⟩
theorem qh{n:Bytes}(hk:(aD n).isSome=true)(ls:List Ln):n∈cL ls↔0<bu ls n:=by
 unfold cL;rw[vk];unfold bu;rw[List.length_pos_iff_exists_mem];simp only[List.mem_filter,beq_iff_eq];constructor
 ·rintro(h|⟨l,hl,h,_⟩)
  ·cases h
  ·exact⟨l,hl,h⟩
 ·rintro⟨l,hl,h⟩
  exact .inr ⟨l,hl,h,hk⟩
theorem CI{n:Bytes}(h:n∈aP):∃k,aD n=some k∧k.many=false:=by
 simp only[aP,List.mem_cons,List.not_mem_nil,or_false]at h;rcases h with rfl|rfl|rfl|rfl|rfl<;>exact⟨_,rfl,rfl⟩
theorem vl{n:Bytes}{k:Kd}(h:aD n=some k)(hm:k.many=false):n∈aP:=by
 have hk:=kn n;rw[h]at hk;cases hk<;>first|(simp[aP];done)|cases hm
theorem CJ(ls:List Ln):∀i,i≤ls.length→((List.range i).all (okP ls)=true↔∀n∈aP,bu (ls.take i) n≤1)
 |0,_=>by simp[bu]
 | i + 1,hi=>by
  obtain⟨l,hl⟩:∃l,ls[i]? =some l:=⟨_,List.getElem?_eq_getElem (by omega)⟩
  have ih:=CJ ls i (by omega);have e:(List.range (i+1)).all (okP ls)=((List.range i).all (okP ls)&&okP ls i):=by rw[List.range_succ,List.all_append];simp
  rw[e,Bool.and_eq_true,ih];have hok:okP ls i= !(zG (ls.take i) l):=by unfold okP;rw[hl]
  constructor
  ·rintro⟨h1,h2⟩ n hn
   rw[kq hl n];have:=h1 n hn;by_cases hq:small l.n=n
   ·obtain⟨k,hk,hm⟩:=CI hn
    rw[hok,zG,hq,hk]at h2;simp only[hm,Bool.not_false,Bool.and_true,Bool.not_eq_true',Bool.eq_false_iff]at h2;have h0:¬0<bu (ls.take i) n:=fun h=>h2 (cR.2 ((qh (by rw[hk];rfl) _).2 h));split<;>omega
   ·rw[if_neg (by simpa using hq)];omega
  ·intro h
   refine⟨fun n hn=>?_,?_⟩
   ·have:=h n hn;rw[kq hl n]at this;omega
   ·rw [hok,zG]
    cases hk:aD (small l.n)with
    |none=>rfl
    | some k=>
     simp only;cases hm:k.many with
     |true=>simp
     | false=>
      have hn:=vl hk hm;have:=h _ hn;rw[kq hl,if_pos (by simp)]at this;have h0:small l.n∉cL (ls.take i):=fun hs=>by
       have:=(qh (by rw[hk];rfl) _).1 hs;omega
      have:inB (small l.n) (cL (ls.take i))=false:=by rw[Bool.eq_false_iff];exact fun e=>h0 (cR.1 e)
      rw[this];rfl
theorem tg(ls:List Ln):(List.range 5).all (fun k=>!fy ls k)=true↔(∀n∈aP,bu ls n≤1)∧0<bu ls nFN:=by
 have e:(List.range 5).all (fun k=>!fy ls k)=((!fy ls 0)&&((!fy ls 1)&&((!fy ls 2)&&((!fy ls 3)&&((!fy ls 4)&&true))))):=rfl;rw[e];simp only[fy,aP,List.getElem?_cons_zero,List.getElem?_cons_succ,Bool.and_eq_true,Bool.not_eq_true',Bool.or_eq_false_iff,Bool.and_eq_false_iff,decide_eq_false_iff_not,List.mem_cons,List.not_mem_nil,or_false,forall_eq_or_imp,forall_eq,and_true];constructor
 ·rintro⟨⟨h0,h0'⟩,⟨h1,_⟩,⟨h2,_⟩,⟨h3,_⟩,h4,_⟩
  refine⟨⟨by omega,by omega,by omega,by omega,by omega⟩,?_⟩;rcases h0' with h|h
  ·exact absurd h (by simp)
  ·omega
 ·rintro⟨⟨h0,h1,h2,h3,h4⟩,h5⟩
  exact⟨⟨by omega,.inr (by omega)⟩,⟨by omega,.inl (by decide)⟩,⟨by omega,.inl (by decide)⟩,⟨by omega,.inl (by decide)⟩,by omega,.inl (by decide)⟩
theorem CK(ls:List Ln):((List.range ls.length).all (okP ls)&&inB nFN (cL ls))=(List.range 5).all (fun k=>!fy ls k):=by
 rw[Bool.eq_iff_iff,Bool.and_eq_true,tg,CJ ls ls.length (Nat.le_refl _),List.take_length,cR,qh rfl]
theorem of_same(c:Cd):(ofP c).2=(ofR c).2∧bc (ofP c).1=bc (ofR c).1:=by
 have hk:br (xO c.ls)=br (xR c.ls):=jM fun f hf=>xd c.ls hf;unfold ofP ofR;rw[←Bool.and_assoc,CK,hk];split
 ·split
  ·exact⟨rfl,zC fun f hf=>xd c.ls hf⟩
  ·exact⟨rfl,rfl⟩
 ·exact⟨rfl,rfl⟩
/-! ### Lines -/
/-! ### A name in front -/
/-! ### It is the program's -/
def nT(a b:Int):Int:=IntKind.i64.wrap (a+b)
theorem qi(a b:Int):aW Tryz.prog .add 3 (.int .i64 a) (.int .i64 b)=some (.int .i64 (nT a b)):=by
 have hu:Tryz.prog.underlying 3=some (.int .i64):=by kernel_rfl
 simp[aW,nT]
def ni:Int→List (Bytes×Bytes)→Option Int
 |n,[]=>some n
 |n,p::r=>if nT p.1.length p.2.length>300 then none else ni (nT n p.2.length) r
def lh:Int→List Ln→Bool
 |_,[]=>true
 |n,l::r=>if 12<l.ps.length∨8000<l.v.length∨nT l.g.length l.n.length>300 then false else
  match ni (nT n l.v.length) l.ps with
  |none=>false
  |some m=>if m>8000 then false else lh m r
def gg(c:Cd):Bool:=if 120<c.ls.length∨100<c.ver.length then false else lh 0 c.ls
set_option maxRecDepth 8000 in
theorem ti(c:Cd):aa Tryz.prog 9 [aS c] (.ret (.bool (gg c))):=by
 obtain⟨ver,x,ls⟩:=c;simp only[aS];refine aa.of Tryz.func9 rfl (ab enters Tryz.func9 rfl) (by simp[Tryz.ntmps9]) ?_;show W Tryz.prog 88 0 none _ _ _;refine W.vc (by decide) ?_;by_cases h1:120<ls.length
 ·have e:gg ⟨ver,x,ls⟩=false:=by simp[gg,h1]
  rw[e]
  repeat'(first|(simp(disch:=first|omega|(simp only[List.length_append,List.length_cons,List.length_nil,List.length_map,List.length_set];omega))only[ep,db,gT,bT,er,dU,cw,ff,lO,cQ,VS,List.length_map,AV.told,cS,dv,dQ,gdA,ae,ad,ai,au,evalOp,dV,cD,Av.get,St.put,bn,ak,Nat.reduceEqDiff,↓reduceIte,List.nil_append,List.getElem?_cons_zero,List.getElem?_cons_succ,List.getElem?_toArray,Option.map_some,Option.bind_some,beq_false,Bool.not_true,bB,ldC,iT,List.length_nil,Nat.zero_add,ec,decide_eq_true,kA,sf,iS]))
  exact⟨_,rfl,_,rfl,.refl _⟩
 by_cases h2:100<ver.length
 ·have e:gg ⟨ver,x,ls⟩=false:=by simp[gg,h2]
  rw[e]
  repeat'(first|(simp(disch:=first|omega|(simp only[List.length_append,List.length_cons,List.length_nil,List.length_map,List.length_set];omega))only[ep,db,gT,bT,er,dU,cw,ff,jY,cQ,VS,List.length_map,AV.told,cS,dv,dQ,gz,gdA,ae,ad,ai,au,evalOp,dV,cD,Av.get,St.put,bn,ak,Nat.reduceEqDiff,↓reduceIte,List.nil_append,List.getElem?_cons_zero,List.getElem?_cons_succ,List.getElem?_toArray,Option.map_some,Option.bind_some,beq_false,Bool.not_false,bB,cond_false,ldC,iT,List.length_nil,Nat.add_zero,Nat.zero_add,ec,decide_eq_true,decide_eq_false,ld9,ls9,kA,sf,vW,iS]))
  exact⟨_,rfl,_,rfl,.refl _⟩
 have e:gg ⟨ver,x,ls⟩=lh 0 ls:=by simp[gg,h1,h2]
 rw[e]
 repeat'(first|(simp(disch:=first|omega|(simp only[List.length_append,List.length_cons,List.length_nil,List.length_map,List.length_set];omega))only[fJ,ep,db,fS,bT,su,fe,dU,cw,ff,jY,cQ,VS,List.length_map,AV.told,cS,dv,dQ,gz,gdA,ae,ad,ai,au,evalOp,dV,cD,Av.get,St.put,bn,ak,Nat.reduceEqDiff,↓reduceIte,List.nil_append,List.getElem?_cons_zero,List.getElem?_cons_succ,List.getElem?_toArray,Option.map_some,Option.bind_some,beq_false,Bool.not_false,bB,cond_false,ldC,iT,List.length_nil,Nat.add_zero,Nat.zero_add,ec,decide_eq_false,ld9,ls9,kA,sf,vW,iS]))
 refine W.xw (X:=Int×Nat) (fun y=>[(3,.int .i64 y.1),(4,.int .i64 (y.2:Int)),(1,.ptr 0 0)]) (fun _=>[.cells [.str ver,.vsl 5 x (ls.map aq)] false])
  (fun y=>y.2≤ls.length∧lh y.1 (ls.drop y.2)=lh 0 ls) (fun y=>ls.length - y.2) (0,0) (fun _=>Nat.zero_le _) rfl ⟨Nat.zero_le _,rfl⟩ ?_ rfl ?_ ?_
 ·simp only[cM,Av.get,Nat.reduceEqDiff,↓reduceIte,cz,gn,gq,and_self,true_and,and_true,List.length_map,List.length_nil]
 ·exact ee (by simp[OB.hlt,AV.bS,AV.hlt,fW])
 rintro⟨m,i⟩ ⟨hi,hL⟩;simp only at hi hL ⊢;refine .vc (by decide) ?_;by_cases h:i<ls.length
 ·obtain⟨⟨g,n,xl,ps,v⟩,hu,hd⟩:=drop_at h
  have hia:∀H,ah Tryz.prog 22 (.vsl 5 x (ls.map aq)) (.int .i64 (i:Int)) H=some (.vptr [.str g,.str n,.vsl 3 xl (ps.map aH),.str v]):=fun H=>jj (v:=aq ⟨g,n,xl,ps,v⟩) (by simp[hu]) rfl H;rw[hd,lh]at hL;simp only at hL;by_cases c1:12<ps.length
  ·rw[if_pos (.inl c1)]at hL
   rw[←hL]
   repeat'(first|(simp(disch:=first|omega|(simp only[List.length_append,List.length_cons,List.length_nil,List.length_map,List.length_set];omega))only[fJ,ep,db,fS,gT,bT,er,dU,cw,ff,lO,cQ,VS,bl,List.length_map,cS,dv,dQ,gdA,ae,ad,ai,au,evalOp,dV,cD,Av.get,St.put,ak,Nat.reduceEqDiff,↓reduceIte,Bool.and_self,List.nil_append,List.getElem?_cons_zero,List.getElem?_cons_succ,List.getElem?_toArray,Option.map_some,Option.bind_some,beq_false,Bool.not_true,bB,ldC,stC,o5,o6,iT,cm,List.set_cons_zero,List.set_cons_succ,List.length_cons,List.length_nil,Nat.reduceAdd,List.all_cons,List.all_nil,and_self,Nat.zero_add,List.take_succ_cons,List.take_zero,Nat.le_refl,List.cons_append,cr,ec,decide_eq_true,kA,sf,iS,oW,ua,vY,AY,gR,Bf,hia,qi]))
   exact⟨_,rfl,_,rfl,.refl _⟩
  by_cases c2:8000<v.length
  ·rw[if_pos (.inr (.inl c2))]at hL
   rw[←hL]
   repeat'(first|(simp(disch:=first|omega|(simp only[List.length_append,List.length_cons,List.length_nil,List.length_map,List.length_set];omega))only[fJ,ep,db,fS,gT,bT,er,dU,cw,ff,jY,lO,cQ,VS,bl,List.length_map,cS,dv,dQ,gz,gdA,ae,ad,ai,au,evalOp,dV,cD,Av.get,St.put,ak,Nat.reduceEqDiff,↓reduceIte,Bool.and_self,List.nil_append,List.getElem?_cons_zero,List.getElem?_cons_succ,List.getElem?_toArray,Option.map_some,Option.bind_some,beq_false,Bool.not_true,Bool.not_false,bB,cond_false,ldC,stC,o5,o6,iT,cm,List.set_cons_zero,List.set_cons_succ,List.length_cons,List.length_nil,Nat.reduceAdd,List.all_cons,List.all_nil,and_self,Nat.zero_add,List.take_succ_cons,List.take_zero,Nat.le_refl,List.cons_append,cr,ec,decide_eq_true,decide_eq_false,ld9,ls9,kA,sf,iS,oW,ua,vY,AY,gR,sg,Bf,hia,qi]))
   exact⟨_,rfl,_,rfl,.refl _⟩
  by_cases c3:nT g.length n.length>300
  ·rw[if_pos (.inr (.inr c3))]at hL
   rw[←hL]
   repeat'(first|(simp(disch:=first|omega|(simp only[List.length_append,List.length_cons,List.length_nil,List.length_map,List.length_set];omega))only[fJ,ep,db,fS,gT,bT,er,dU,cw,ff,jY,cQ,VS,bl,List.length_map,cS,dv,dQ,gz,gdA,ae,ad,ai,au,evalOp,dV,cD,Av.get,St.put,ak,Nat.reduceEqDiff,↓reduceIte,Bool.and_self,List.nil_append,List.getElem?_cons_zero,List.getElem?_cons_succ,List.getElem?_toArray,Option.map_some,Option.bind_some,beq_false,Bool.not_false,bB,cond_false,ldC,stC,o5,o6,iT,cm,List.set_cons_zero,List.set_cons_succ,List.length_cons,List.length_nil,Nat.reduceAdd,List.all_cons,List.all_nil,and_self,Nat.add_zero,Nat.zero_add,List.take_succ_cons,List.take_zero,Nat.le_refl,List.cons_append,cr,ec,decide_eq_true,decide_eq_false,ld9,ls9,kA,sf,iS,oW,ua,vY,AY,wa,wb,gR,sg,Bf,hia,qi]))
   exact⟨_,rfl,_,rfl,.refl _⟩
  rw[if_neg (by omega)]at hL
  repeat'(first|(simp(disch:=first|omega|(simp only[List.length_append,List.length_cons,List.length_nil,List.length_map,List.length_set];omega))only[fJ,ep,db,fS,bT,su,er,fe,dU,cw,ff,jY,cQ,VS,List.length_map,cS,dv,dQ,gz,gdA,ae,ad,ai,au,evalOp,dV,cD,Av.get,St.put,ak,Nat.reduceEqDiff,↓reduceIte,Bool.and_self,List.nil_append,List.getElem?_cons_zero,List.getElem?_cons_succ,List.getElem?_toArray,Option.map_some,Option.bind_some,beq_false,Bool.not_false,bB,cond_false,ldC,stC,o5,o6,iT,cm,List.set_cons_zero,List.set_cons_succ,List.length_cons,List.length_nil,Nat.reduceAdd,List.all_cons,List.all_nil,and_self,Nat.add_zero,Nat.zero_add,List.take_succ_cons,List.take_zero,Nat.le_refl,List.cons_append,cr,ec,decide_eq_true,decide_eq_false,ld9,ls9,kA,sf,iS,oW,ua,vY,AY,wa,wb,gR,sg,Bf,hia,qi]))
  refine W.bh (X:=Int×Nat) (fun y=>[(3,.int .i64 y.1),(6,.int .i64 (y.2:Int)),(5,.ptr 1 0),(4,.int .i64 (i:Int)),(1,.ptr 0 0)]) (fun _=>[.cells [.str ver,.vsl 5 x (ls.map aq)] false,.cells [.str g,.str n,.vsl 3 xl (ps.map aH),.str v] false])
   (fun y=>y.2≤ps.length∧ni y.1 (ps.drop y.2)=ni (nT m v.length) ps) (fun y=>ps.length - y.2) (nT m v.length,0) ⟨Nat.zero_le _,rfl⟩ ⟨rfl,rfl,rfl,rfl,rfl,trivial⟩ rfl ?_
  rintro⟨q,k⟩ ⟨hk,hP⟩;simp only at hk hP ⊢;refine .vc (by decide) ?_;by_cases hkl:k<ps.length
  ·obtain⟨⟨pn,pv⟩,hp,hpd⟩:=drop_at hkl
   have hja:∀H,ah Tryz.prog 44 (.vsl 3 xl (ps.map aH)) (.int .i64 (k:Int)) H=some (.vptr [.str pn,.str pv]):=fun H=>zj (v:=aH (pn,pv)) (by simp[hp]) rfl H;rw[hpd,ni]at hP;simp only at hP
   repeat'(first|(simp(disch:=first|omega|(simp only[List.length_append,List.length_cons,List.length_nil,List.length_map,List.length_set];omega))only[fJ,ep,db,fS,bT,uc,er,dU,cw,cQ,VS,List.length_map,dQ,ae,ad,ai,au,evalOp,dV,Av.get,St.put,ak,Nat.reduceEqDiff,↓reduceIte,List.getElem?_cons_zero,List.getElem?_cons_succ,Option.map_some,ldC,Nat.zero_add,cr,decide_eq_true,oW,ua,gR,hja]))
   refine W.aO [] [false,false,false,false,false,false,false,false,false,false,false,false,false,false,false,false] [] mixed (by kernel_rfl) (by kernel_rfl) (by kernel_rfl) ?_;by_cases c4:nT pn.length pv.length>300
   ·rw[if_pos c4]at hP
    rw[←hP]at hL;simp only at hL;rw[←hL]
    repeat'(first|(simp(disch:=first|omega|(simp only[List.length_append,List.length_cons,List.length_nil,List.length_map,List.length_set];omega))only[ep,db,gT,bT,er,dU,cw,cQ,VS,bl,wu,o9,DS,Bd,Be,cPs,sB,sC,cS,dv,gz,ae,ad,ai,au,evalOp,dV,cD,Av.get,St.put,ak,Nat.reduceEqDiff,↓reduceIte,List.nil_append,List.getElem?_cons_zero,List.getElem?_cons_succ,Option.map_some,ldC,and_self,true_and,Nat.zero_add,List.drop_succ_cons,List.drop_zero,List.cons_append,ec,decide_eq_true,lw9,ls9,oW,gR,wc,wg,hja,qi]))
    exact⟨_,rfl,_,rfl,.refl _⟩
   ·rw[if_neg c4]at hP
    repeat'(first|(simp(disch:=first|omega|(simp only[List.length_append,List.length_cons,List.length_nil,List.length_map,List.length_set];omega))only[fJ,db,bT,fe,dU,cw,cQ,VS,bl,wu,o9,DS,Bd,Be,cPs,sB,sC,dv,gz,ae,ad,ai,au,evalOp,dV,cD,Av.get,St.put,ak,Nat.reduceEqDiff,↓reduceIte,List.nil_append,List.getElem?_cons_zero,List.getElem?_cons_succ,Option.map_some,ldC,and_self,true_and,and_true,Nat.zero_add,List.drop_succ_cons,List.drop_zero,List.cons_append,ec,du,A6,decide_eq_false,lw9,ls9,oW,gR,wc,wg,hja,qi]))
    exact⟨(nT q pv.length,k+1),⟨by simp only;omega,hP⟩,by simp only;omega,⟨rfl,rfl,rfl,rfl,rfl,trivial⟩⟩
  ·have e:k=ps.length:=by omega
   subst e;have hP:some q=ni (nT m v.length) ps:=by rw[←hP,List.drop_length];rfl
   rw[←hP]at hL;simp only at hL;by_cases c5:q>8000
   ·rw[if_pos c5]at hL
    rw[←hL]
    repeat'(first|(simp(disch:=first|omega|(simp only[List.length_append,List.length_cons,List.length_nil,List.length_map,List.length_set];omega))only[ep,db,od,gT,bT,er,fe,dU,cw,cQ,VS,bl,List.length_map,cS,dv,dQ,ae,ad,ai,au,evalOp,dV,cD,Av.get,St.put,ak,Nat.reduceEqDiff,↓reduceIte,List.getElem?_cons_zero,List.getElem?_cons_succ,Option.map_some,ldC,Nat.zero_add,cr,ec,decide_eq_true,decide_eq_false,oW,ua,gR]))
    exact⟨_,rfl,_,rfl,.refl _⟩
   ·rw[if_neg c5]at hL
    repeat'(first|(simp(disch:=first|omega|(simp only[List.length_append,List.length_cons,List.length_nil,List.length_map,List.length_set];omega))only[fJ,ep,db,od,bT,fe,dU,cw,cQ,VS,bl,List.length_map,dv,dQ,ae,ad,ai,au,evalOp,dV,cD,Av.get,St.put,ak,Nat.reduceEqDiff,↓reduceIte,List.getElem?_cons_zero,List.getElem?_cons_succ,Option.map_some,ldC,and_true,Nat.zero_add,cr,ec,du,A6,decide_eq_false,oW,ua,gR,qi]))
    refine⟨(q,i+1),⟨by simp only;omega,hL⟩,by simp only;omega,?_,rfl,?_⟩
    ·simp only[cM,Av.get,Nat.reduceEqDiff,↓reduceIte,cz,gn,gq,and_self,true_and,and_true,List.length_map,List.length_nil]
    ·exact zg (A:=[.cells [.str ver,.vsl 5 x (ls.map aq)] false]) (by simp[OB.hlt,AV.bS,AV.hlt,fW])
 ·have e:i=ls.length:=by omega
  subst e;have hL:true=lh 0 ls:=by rw[←hL,List.drop_length];rfl
  rw[←hL]
  repeat'(first|(simp(disch:=first|omega|(simp only[List.length_append,List.length_cons,List.length_nil,List.length_map,List.length_set];omega))only[ep,db,od,gT,bT,fe,dU,cw,cQ,VS,bl,List.length_map,cS,dQ,ae,ad,ai,au,evalOp,dV,cD,Av.get,St.put,ak,Nat.reduceEqDiff,↓reduceIte,List.getElem?_cons_zero,List.getElem?_cons_succ,Option.map_some,ldC,List.length_cons,List.length_nil,Nat.zero_add,cr,decide_eq_false,kA,sf,iS]))
  exact⟨_,rfl,_,rfl,.refl _⟩
def Kb:Bytes:=[69,118,97]
def lK0:Ln:=⟨[],[102,110],true,[],[65,110,110,92,44,32,66]⟩
def lK1:Ln:=⟨[],[120,45,97],true,[],[49]⟩
def cK0:Cd:=⟨[51,46,48],false,[lK0,lK1]⟩
def xK0:List Val:=[(false,[[65,110,110,44,32,66]]),(false,[]),(false,[]),(false,[]),(false,[]),(false,[]),(false,[]),(false,[])]
def xK1:List Val:=[(true,[Kb]),(false,[]),(false,[]),(false,[]),(false,[]),(false,[]),(true,[[101]]),(false,[])]
def oL0:Ln:=⟨[],[102,110],false,[],[69,118,97]⟩
def oL1:Ln:=⟨[],[120,45,97],false,[],[49]⟩
def oL2:Ln:=⟨[],[101,109,97,105,108],true,[],[101]⟩
def oK0:Cd:=⟨[51,46,48],false,[oL0,oL1,oL2]⟩
theorem FP:(ofR cK0).2=0:=by kernel_rfl
theorem Kc:bc (ofR cK0).1=xK0:=by kernel_rfl
theorem Ke:aL cK0=0:=by kernel_rfl
theorem Kf:br (ar xK1)=true:=by kernel_rfl
theorem Kg:dL cK0 xK1=oK0:=by kernel_rfl
theorem Kh:aL oK0=0:=by kernel_rfl
theorem Ib:aM cK0 xK1=(oK0,0):=by
 unfold aM;rw[if_pos ⟨Ke,Kf⟩,(of_same cK0).1,FP,if_pos rfl,Kg,Kh,if_pos rfl]
def nK0:AV:=.agg [.str [],.str [102,110],.nilsl,.str [65,110,110,92,44,32,66]]
def nK1:AV:=.agg [.str [],.str [120,45,97],.nilsl,.str [49]]
theorem sbK:Sb (.agg [.str [51,46,48],.vsl 5 true [nK0,nK1]]) (aS cK0):=
 Sb.agg (.cons (Sb.refl _) (.cons (Sb.trans (Sb.le (.exact _ _ _)) (Sb.elems (.cons _ _ _ _ (.cons _ _ _ _ (.refl _) (.cons _ _ _ _ (.refl _) (.cons _ _ _ _ (.nils _ _) (.cons _ _ _ _ (.refl _) .nil)))) (.cons _ _ _ _ (.cons _ _ _ _ (.refl _) (.cons _ _ _ _ (.refl _) (.cons _ _ _ _ (.nils _ _) (.cons _ _ _ _ (.refl _) .nil)))) .nil)))) .nil))
set_option maxRecDepth 8000 in
theorem qj:aa Tryz.prog 11 [] (.ret (.bool true)):=by
 have hof:=lb cK0;rw[(of_same cK0).1,(of_same cK0).2,FP,Kc]at hof;have hin:=qd cK0 xK1 rfl;rw[Ib]at hin;have hof:=aa.sub (.cons sbK .nil) hof;have hin:=aa.sub (.cons sbK (.cons (Sb.refl _) .nil)) hin;simp only[nK0,nK1,aS,oK0,aq,lK0,lK1,oL0,oL1,oL2,List.map_cons,List.map_nil,xK0,xK1,av,Kb]at hof hin;have i0:∀H,ah Tryz.prog 22 (.vsl 5 false [aq oL0,aq oL1,aq oL2]) (.int .i64 0) H=some (.vptr (aq oL0).cells):=fun H=>jj (n:=0) rfl rfl H;have i1:∀H,ah Tryz.prog 22 (.vsl 5 false [aq oL0,aq oL1,aq oL2]) (.int .i64 1) H=some (.vptr (aq oL1).cells):=fun H=>jj (n:=1) rfl rfl H
 have i2:∀H,ah Tryz.prog 22 (.vsl 5 false [aq oL0,aq oL1,aq oL2]) (.int .i64 2) H=some (.vptr (aq oL2).cells):=fun H=>jj (n:=2) rfl rfl H;simp only[aq,oL0,oL1,oL2,List.map_nil,AV.cells]at i0 i1 i2;have a0:∀H,ah Tryz.prog 27 (.ptr 1 0) (.int .i64 0) H=some (.ptr 1 0):=eG 1 0 (by decide);have a6:∀H,ah Tryz.prog 27 (.ptr 1 0) (.int .i64 6) H=some (.ptr 1 6):=eG 1 6 (by decide);have hb1:cB Tryz.prog 46 [(1,.str [102,110]),(3,.str [65,110,110,92,44,32,66])]=some (.agg [.str [],.str [102,110],.nilsl,.str [65,110,110,92,44,32,66]]):=by kernel_rfl
 have hb2:cB Tryz.prog 46 [(1,.str [120,45,97]),(3,.str [49])]=some (.agg [.str [],.str [120,45,97],.nilsl,.str [49]]):=by kernel_rfl
 have hb3:aw Tryz.prog 22 2 [(0,.agg [.str [],.str [102,110],.nilsl,.str [65,110,110,92,44,32,66]]),(1,.agg [.str [],.str [120,45,97],.nilsl,.str [49]])]=some (.vsl 5 true [.agg [.str [],.str [102,110],.nilsl,.str [65,110,110,92,44,32,66]],.agg [.str [],.str [120,45,97],.nilsl,.str [49]]]):=by kernel_rfl
 have hb5:aw Tryz.prog 25 1 [(0,.str [69,118,97])]=some (.vsl 0 true [.str [69,118,97]]):=by kernel_rfl
 have hb6:aw Tryz.prog 25 1 [(0,.str [101])]=some (.vsl 0 true [.str [101]]):=by kernel_rfl
 have hb4:cB Tryz.prog 24 [(0,.str [51,46,48]),(1,.vsl 5 true [nK0,nK1])]=some (.agg [.str [51,46,48],.vsl 5 true [nK0,nK1]]):=by kernel_rfl
 simp only[nK0,nK1]at hb4;refine aa.of Tryz.func11 rfl (ab enters Tryz.func11 rfl) (by simp[Tryz.ntmps11]) ?_;show W Tryz.prog 69 0 none _ _ _;refine W.vc (by decide) ?_
 repeat'(first|(simp(disch:=first|omega|(simp only[zL];omega))only[go_sem,seval,i0,i1,i2,a0,a6,beq_self_eq_true,hb1,hb2,hb3,hb4,hb5,hb6])|((with_reducible first|apply aj.pure|apply an.pure);(with_reducible assumption);(first|rfl|simp only[go_sem])))
 exact⟨_,rfl,_,rfl,.refl _⟩
theorem xe(a:List Val):gE a a=true:=by simp[gE]
set_option maxRecDepth 8000 in
theorem cardsOf(c:Cd):aa Tryz.prog 4 [aS c] (.ret (.bool true)):=by
 have hl:=ti c;have hk:=qj;have hp:=lb c;have hr:=J3 c;have hs:=og (bc (ofR c).1) (bc (ofR c).1) (bM _) (bM _);rw[xe]at hs;rw[(of_same c).1,(of_same c).2]at hp;have hoh:=aJ (bc (ofR c).1);have hlen:((bc (ofR c).1).map av).length=8:=by rw[List.length_map,bM]
 have hoc:=fo (bc (ofR c).1);obtain⟨ver,fx,ls⟩:=c;have hLh:=aN ls;simp only[aS]at hl hp hr ⊢;generalize ls.map aq=L at*;generalize gg ⟨ver,fx,ls⟩=la at*;generalize(ofR ⟨ver,fx,ls⟩).2=E at*;generalize(bc (ofR ⟨ver,fx,ls⟩).1).map av=Y at*;have hst1:∀A,aE Tryz.prog 27 (.ptr 1 0) (.agg Y) [A,.cells [.nilsl,.nilsl,.nilsl,.nilsl,.nilsl,.nilsl,.nilsl,.nilsl] false]=some [A,.cells Y false]:=by
  intro A;exact dZ (vs:=bK) rfl rfl hlen hoc rfl
 have hst2:∀A B,aE Tryz.prog 27 (.ptr 2 0) (.agg Y) [A,B,.cells [.nilsl,.nilsl,.nilsl,.nilsl,.nilsl,.nilsl,.nilsl,.nilsl] false]=some [A,B,.cells Y false]:=by
  intro A B;exact dZ (vs:=bK) rfl rfl hlen hoc rfl
 have hld1:∀A Z,al Tryz.prog 27 (.ptr 1 0) (A::.cells Y false::Z)=some (.agg Y):=by
  intro A Z;simp[gQ,ldG,hlen];exact List.take_of_length_le (by omega)
 have hld2:∀A B Z,al Tryz.prog 27 (.ptr 2 0) (A::B::.cells Y false::Z)=some (.agg Y):=by
  intro A B Z;simp[gQ,ldG,hlen];exact List.take_of_length_le (by omega)
 refine aa.of Tryz.func4 rfl (ab enters Tryz.func4 rfl) (by simp[Tryz.ntmps4]) ?_;show W Tryz.prog 32 0 none _ _ _;refine W.vc (by decide) ?_;cases la with
 |false=>
  repeat'(first|(simp(disch:=first|omega|(simp only[zL];omega))only[go_sem,seval])|((with_reducible first|apply aj.pure|apply an.pure);(with_reducible assumption);(first|rfl|simp only[go_sem,hLh])))
  exact⟨_,rfl,_,rfl,.refl _⟩
 |true=>
  repeat'(first|(simp(disch:=first|omega|(simp only[zL];omega))only[go_sem,seval,hld1,hld2,hst1,hst2,beq_self_eq_true])|((with_reducible first|apply aj.pure|apply an.pure);(with_reducible assumption);(first|rfl|simp only[go_sem,hLh,hoh])))
  exact⟨_,rfl,_,rfl,.refl _⟩
open Go Go.Av Go.ChangeShapes Go.WideShapes Go.ChangeAt Go.RowKit
section
variable{H:Type} {enc:TypeId×Value→H} {w:World} {base:Nat} {sp:Nat→Bool} {held:Bool}
theorem coS:Tryz.prog.cellsOf 9=1:=by kernel_rfl
theorem coP:Tryz.prog.cellsOf 55=2:=by kernel_rfl
theorem LM:Tryz.prog.cellsOf 44=1:=by kernel_rfl
theorem coL:Tryz.prog.cellsOf 46=4:=by kernel_rfl
theorem LN:Tryz.prog.cellsOf 22=1:=by kernel_rfl
theorem coC:Tryz.prog.cellsOf 24=2:=by kernel_rfl
theorem Ic:lX enc Tryz.prog w base sp held 55 (fun v=>∃a:Bytes×Bytes,v=aH a):=by
 intro fuel cs x h;obtain⟨xs,n,_,_,hl,hn,hf⟩:=DataW.trod_struct Tryz.underlying55 h;rw[coP]at hl;have hxs:xs.length=2:=by rw[hn];rfl
 have h0:DataW.trod enc Tryz.prog w base sp held n 9 ((cs.drop 0).take (Tryz.prog.cellsOf 9))=xs[0]?:=hf 0 _ rfl;have h1:DataW.trod enc Tryz.prog w base sp held n 9 ((cs.drop 1).take (Tryz.prog.cellsOf 9))=xs[1]?:=hf 1 _ rfl;obtain⟨a,b,rfl⟩:∃a b,cs=[a,b]:=by
  rcases cs with _|⟨a,_|⟨b,_|⟨c,r⟩⟩⟩<;>simp at hl
  exact⟨a,b,rfl⟩
 rw[List.getElem?_eq_getElem (by omega)]at h0 h1;obtain⟨u,⟨s,rfl⟩,hu⟩:=eM (enc:=enc) Tryz.underlying9 n _ _ h0;obtain⟨v,⟨l,rfl⟩,hv⟩:=eM (enc:=enc) Tryz.underlying9 n _ _ h1;rw[coS]at hu hv;have hu':VRs (eB w) w noμ [.str s] [a]:=hu;have hv':VRs (eB w) w noμ [.str l] [b]:=hv;refine⟨aH (s,l),⟨_,rfl⟩,?_⟩;show VRs _ _ _ [.str s,.str l] [a,b];cases hu' with
 |cons _ _ _ _ g1 _=>cases hv' with
  |cons _ _ _ _ g2 _=>exact .cons _ _ _ _ g1 (.cons _ _ _ _ g2 .nil)
theorem E8:lX enc Tryz.prog w base sp held 44 (fun v=>∃e:List (Bytes×Bytes),v=.vsl 3 false (e.map aH)):=by
 intro fuel cs x h;obtain⟨v,⟨es,h1,rfl⟩,h2⟩:=jy (wd:=3) Tryz.underlying44 coP (by decide) Ic fuel cs x h;obtain⟨l,rfl⟩:=ke h1;exact⟨_,⟨l,rfl⟩,h2⟩
theorem Ie:lX enc Tryz.prog w base sp held 46 (fun v=>∃a:Ln,v=aq a):=by
 intro fuel cs x h;obtain⟨xs,n,_,_,hl,hn,hf⟩:=DataW.trod_struct Tryz.underlying46 h;rw[coL]at hl;have hxs:xs.length=4:=by rw[hn];rfl
 have h0:DataW.trod enc Tryz.prog w base sp held n 9 ((cs.drop 0).take (Tryz.prog.cellsOf 9))=xs[0]?:=hf 0 _ rfl;have h1:DataW.trod enc Tryz.prog w base sp held n 9 ((cs.drop 1).take (Tryz.prog.cellsOf 9))=xs[1]?:=hf 1 _ rfl;have h2:DataW.trod enc Tryz.prog w base sp held n 44 ((cs.drop 2).take (Tryz.prog.cellsOf 44))=xs[2]?:=hf 2 _ rfl;have h3:DataW.trod enc Tryz.prog w base sp held n 9 ((cs.drop 3).take (Tryz.prog.cellsOf 9))=xs[3]?:=hf 3 _ rfl;obtain⟨a,b,c,d,rfl⟩:∃a b c d,cs=[a,b,c,d]:=by
  rcases cs with _|⟨a,_|⟨b,_|⟨c,_|⟨d,_|⟨e,r⟩⟩⟩⟩⟩<;>simp at hl
  exact⟨a,b,c,d,rfl⟩
 rw[List.getElem?_eq_getElem (by omega)]at h0 h1 h2 h3;obtain⟨u0,⟨s0,rfl⟩,g0⟩:=eM (enc:=enc) Tryz.underlying9 n _ _ h0;obtain⟨u1,⟨s1,rfl⟩,g1⟩:=eM (enc:=enc) Tryz.underlying9 n _ _ h1;obtain⟨u2,⟨s2,rfl⟩,g2⟩:=E8 (enc:=enc) n _ _ h2;obtain⟨u3,⟨s3,rfl⟩,g3⟩:=eM (enc:=enc) Tryz.underlying9 n _ _ h3;rw[coS]at g0 g1 g3;rw[LM]at g2;have g0':VRs (eB w) w noμ [.str s0] [a]:=g0;have g1':VRs (eB w) w noμ [.str s1] [b]:=g1;have g2':VRs (eB w) w noμ [.vsl 3 false (s2.map aH)] [c]:=g2;have g3':VRs (eB w) w noμ [.str s3] [d]:=g3;refine⟨aq ⟨s0,s1,false,s2,s3⟩,⟨_,rfl⟩,?_⟩
 show VRs _ _ _ [.str s0,.str s1,.vsl 3 false (s2.map aH),.str s3] [a,b,c,d];cases g0' with
 | cons _ _ _ _ k0 _=>cases g1' with
  | cons _ _ _ _ k1 _=>cases g2' with
   |cons _ _ _ _ k2 _=>cases g3' with
    |cons _ _ _ _ k3 _=>exact .cons _ _ _ _ k0 (.cons _ _ _ _ k1 (.cons _ _ _ _ k2 (.cons _ _ _ _ k3 .nil)))
theorem E9:lX enc Tryz.prog w base sp held 22 (fun v=>∃e:List Ln,v=.vsl 5 false (e.map aq)):=by
 intro fuel cs x h;obtain⟨v,⟨es,h1,rfl⟩,h2⟩:=jy (wd:=5) Tryz.underlying22 coL (by decide) Ie fuel cs x h;obtain⟨l,rfl⟩:=ke h1;exact⟨_,⟨l,rfl⟩,h2⟩
theorem Ig:lX enc Tryz.prog w base sp held 24 (fun v=>∃a:Cd,v=aS a):=by
 intro fuel cs x h;obtain⟨xs,n,_,_,hl,hn,hf⟩:=DataW.trod_struct Tryz.underlying24 h;rw[coC]at hl;have hxs:xs.length=2:=by rw[hn];rfl
 have h0:DataW.trod enc Tryz.prog w base sp held n 9 ((cs.drop 0).take (Tryz.prog.cellsOf 9))=xs[0]?:=hf 0 _ rfl;have h1:DataW.trod enc Tryz.prog w base sp held n 22 ((cs.drop 1).take (Tryz.prog.cellsOf 22))=xs[1]?:=hf 1 _ rfl;obtain⟨a,b,rfl⟩:∃a b,cs=[a,b]:=by
  rcases cs with _|⟨a,_|⟨b,_|⟨c,r⟩⟩⟩<;>simp at hl
  exact⟨a,b,rfl⟩
 rw[List.getElem?_eq_getElem (by omega)]at h0 h1;obtain⟨u,⟨s,rfl⟩,hu⟩:=eM (enc:=enc) Tryz.underlying9 n _ _ h0;obtain⟨v,⟨l,rfl⟩,hv⟩:=E9 (enc:=enc) n _ _ h1;rw[coS]at hu;rw[LN]at hv;have hu':VRs (eB w) w noμ [.str s] [a]:=hu;have hv':VRs (eB w) w noμ [.vsl 5 false (l.map aq)] [b]:=hv;refine⟨aS ⟨s,false,l⟩,⟨_,rfl⟩,?_⟩;show VRs _ _ _ [.str s,.vsl 5 false (l.map aq)] [a,b];cases hu' with
 |cons _ _ _ _ g1 _=>cases hv' with
  |cons _ _ _ _ g2 _=>exact .cons _ _ _ _ g1 (.cons _ _ _ _ g2 .nil)
set_option maxRecDepth 100000 in
theorem kr{v:Value}{d:DataW H}{ps:List MemPlace}{r:Reach}{b0:Nat}(hval:Value.okWide Tryz.prog w r b0 24 v)(hd:DataW.Trod enc Tryz.prog w base sp held 24 v d ps):
    ∃c:Cd,VR (eB w) w noμ (aS c) v:=by
  simp only[Value.okWide,Tryz.underlying24]at hval;obtain⟨cs,rfl,h2,_⟩:=hval;obtain⟨fuel,hf⟩:=hd;obtain⟨u,⟨c,rfl⟩,hu⟩:=Ig (enc:=enc) fuel _ _ hf;exact⟨c,.agg _ _ hu⟩
end
theorem dN {P:Program} {f:FuncId} {fn:Func} {c:Code} {args:List AV} {Vs:List Value} {r:AV} {V:Value} (hN:Go.Av.Enters P) (hf:P.funcs[f]? =some fn) (hb:fn.body=some c) (w:World) (hp:aa P f args (.ret r))
    (hv:VRs (eB w) w noμ args Vs) (hr: ∀F' w' R,VR F' w' noμ r R→R=V):Calls P f Vs.toArray w fun e w'=>e=.returned V∧Below w.heap.size w w':=by
  rcases hp (eB w) w Vs (fun b o h=>h) hv with⟨w1,h1,rfl,h2⟩|⟨V',w1,h1,h2⟩
  · refine h2.mono ?_
    rintro e w' ⟨hbl,F',_,_,_,ho⟩;cases ho with
    |ret _ R h=>exact⟨by rw[hr _ _ _ h],hbl⟩
  · rw[ab hN hf hb]at h1;cases h1
theorem iE {H:Type} {enc:TypeId×Value→H} {P:Program} {f:Func} {s:ChangeSpec} {apart fresh handsOn again:Bool} {W W':World} {args:Array Value} {v:Value} {ds gs:List (DataW H)} {before pa pv:List MemPlace}
    (hW:DataW.Whole enc P f.params.toList s.vars apart W args.toList ds gs before)
    (hres: ∀(b:Nat) (sp:Nat→Bool) (hd:Bool),DataW.TrodAll enc P W' b sp hd f.resultTypes.toList (v.resultList f.resultTypes.size) (s.fn H (ds++gs)).results [])
    (hargs: ∀sp:Nat→Bool,(∀p∈before,sp p.block=true)→DataW.TrodAll enc P W' 0 sp true f.params.toList args.toList (s.fn H (ds++gs)).args pa)
    (hvars: ∀sp:Nat→Bool,(∀p∈before,sp p.block=true)→DataW.TrodVars enc P W' sp s.vars (s.fn H (ds++gs)).vars pv)
    (hps:before=pa++pv) (hbl:Below W.heap.size W W')
    (hok: ∀(j:Nat) (t:TypeId) (r:Value),f.resultTypes[j]? =some t→(v.resultList f.resultTypes.size)[j]? =some r→Value.okWide P W' .any 0 t r):
    s.post enc P f apart fresh handsOn again W args v W':=by
  have hlt: ∀p∈before,p.block<W.heap.size:=fun p hp=>hW.lt p hp;refine⟨ds,gs,before,[],pa,pv,hW,hres _ _ _,hargs (fun b=>decide (b<W.heap.size)) (fun p hp=>by simpa using hlt p hp),hvars (fun b=>decide (b<W.heap.size)) (fun p hp=>by simpa using hlt p hp),?_,fun _=> ?_⟩
  · refine World.keptBut_mono (fun p hp=>⟨hp,?_⟩) (hbl.frame (· ∈before))
    rw[hps,List.mem_append]at hp;exact Or.inr hp
  · obtain⟨_,_,_,_,_,hz,hn⟩:=hW
    refine⟨hok,_,_,([]++pa)++pv,⟨[]++pa,pv,trodAll_append (hargs _ (fun _ _=>rfl)) (hres _ _ _),hvars _ (fun _ _=>rfl),rfl,?_,?_⟩,?_⟩
    · intro b off hp
      have hb:MemPlace.cell b off∈before:=by rw[hps];simpa using hp
      rw[hbl.frozen (hlt _ hb)];exact hz b off hb
    · intro ha
      have:=hn ha;rw[hps]at this;simpa using this
    · intro p hp _
      rw[hps];simpa using hp
theorem laidAll:laidOutB Tryz.prog=true:=by kernel_rfl
theorem stays {H:Type} {enc:TypeId×Value→H} {t:TypeId} (hr:Tryz.prog.readableRec t=true) (hrow:t<Tryz.prog.types.size) {W W':World} {v:Value} {d:DataW H} {ps:List MemPlace}
    (h:DataW.Trod enc Tryz.prog W 0 (fun _=>true) true t v d ps) (hb:Below W.heap.size W W') (hlt: ∀x∈ps,x.block<W.heap.size) (sp':Nat→Bool) (hsp: ∀x∈ps,sp' x.block=true):DataW.Trod enc Tryz.prog W' 0 sp' true t v d ps:=
  WideElems.Trod_stays laidAll hr hrow h (fun x hx=>hb.same (hlt x hx)) hsp
theorem jR(m:UInt8):∀(s:Bytes) (b:Bool) (cur:Bytes),Lib.join (aQ m b cur s) [m]=cur++s
 | [],b,cur=>by
  cases b<;>simp[aQ,Lib.join,List.intercalate]
 |x::t,true,cur=>by
  rw[aQ,jR m t false];simp
 | x::t,false,cur=>by
  rw[aQ];by_cases h:x=92
  ·rw[if_pos h,jR m t true];simp
  ·rw[if_neg h]
   by_cases h2:x=m
   ·rw[if_pos h2]
    obtain⟨p,q,e⟩:∃p q,aQ m false [] t=p::q:=by
     cases hp:aQ m false [] t with
     |nil=>exact(eR m t false [] hp).elim
     |cons p q=>exact⟨p,q,rfl⟩
    have:=jR m t false [];rw[e]at this ⊢;rw[dy,this,h2];simp
   ·rw[if_neg h2,jR m t false];simp
theorem iZ(m:UInt8):∀(s:Bytes) (b:Bool) (cur:Bytes) (p q:Bytes) (r:List Bytes),aQ m b cur s=p::q::r→∃t,q::r=aQ m false [] t
 | [],b,cur,p,q,r,h=>by cases b<;>simp[aQ]at h
 |x::t,true,cur,p,q,r,h=>by rw[aQ]at h;exact iZ m t _ _ _ _ _ h
 | x::t,false,cur,p,q,r,h=>by
  rw[aQ]at h;by_cases h1:x=92
  ·rw[if_pos h1]at h;exact iZ m t _ _ _ _ _ h
  ·rw[if_neg h1]at h
   by_cases h2:x=m
   ·rw[if_pos h2]at h;injection h with _ h;exact⟨t,h.symm⟩
   ·rw[if_neg h2]at h;exact iZ m t _ _ _ _ _ h
def isP(ps:List Bytes):Prop:=∃t,ps=aY 59 t
theorem qk{ps:List Bytes}(h:isP ps):aY 59 (Lib.join ps [59])=ps:=by
 obtain⟨t,rfl⟩:=h;rw[aY,aY,jR];rfl
theorem CL{p q:Bytes}{r:List Bytes}(h:isP (p::q::r)):isP (q::r):=by
 obtain⟨t,ht⟩:=h;exact iZ 59 t false [] p q r ht.symm
theorem tj(w:Bytes):isP [esc w]:=⟨esc w,by
 have:=iu (m:=59) (.inl rfl) w [] [];rw[List.append_nil,List.nil_append]at this
 rw[aY,this];rfl⟩
theorem jS(w:Bytes){ps:List Bytes}(h:isP ps):isP (esc w::ps):=by
 obtain⟨t,rfl⟩:=h;refine⟨esc w++59::t,?_⟩;have:=iu (m:=59) (.inl rfl) w [] (59::t);rw[List.nil_append]at this;rw[aY,aY,this,aQ,if_neg (by decide),if_pos rfl]
theorem vm:∀(n:Nat) {ps:List Bytes},isP ps→ps.drop n=[]∨isP (ps.drop n)
 |0,ps,h=>.inr h
 |n+1,[],h=>.inl (by simp)
 |n+1,[p],h=>.inl (by simp)
 |n+1,p::q::r,h=>by
  have:=vm n (CL h);simpa using this
theorem yv:∀(ws:List Bytes) {ps:List Bytes},ps=[]∨isP ps→ws.map esc++ps=[]∨isP (ws.map esc++ps)
 | [],ps,h=>h
 |w::ws,ps,h=>by
  rcases yv ws h with e|e
  ·rw[List.map_cons,List.cons_append,e];exact .inr (tj w)
  ·rw[List.map_cons,List.cons_append];exact .inr (jS w e)
theorem Fa{ws:List Bytes}{v:Bytes}(hw:ws≠ []):aY 59 (Lib.join (bz ws (aY 59 v)) [59])=bz ws (aY 59 v):=by
 rcases yv ws (vm ws.length ⟨v,rfl⟩)with e|e
 ·simp at e;exact(hw e.1).elim
 ·exact qk e
theorem CM(k:Kd)(v:Bytes):(ba k v).length=k.fs.length:=by simp[ba]
theorem mB(k:Kd)(c:List Val):(bw k c).length=k.fs.length:=by simp[bw]
theorem Ih{ws ps:List Bytes}{n:Nat}{w:Bytes}(h:ws[n]? =some w):atC (bz ws ps) n=w:=by
 have hn:=(List.getElem?_eq_some_iff.1 h).1;rw[atC,wQ,if_pos hn,h];exact eN w
theorem CN{k:Kd}{v:Bytes}{c:List Val}(hk:k.fs≠ [])(h1:k.parts=false→k.fs.length=1):ba k (Lib.join (bz (bw k c) (dn k v)) [59])=bw k c:=by
 have hw:bw k c≠ []:=by simpa[bw]using hk
 have hc:dn k (Lib.join (bz (bw k c) (dn k v)) [59])=bz (bw k c) (dn k v):=by
  unfold dn;cases hp:k.parts with
  |true=>simp only[if_true];exact Fa hw
  |false=>
   have hl:=h1 hp;rw[←mB k c]at hl;obtain⟨w,e⟩:=List.length_eq_one_iff.1 hl;simp[e,bz,Lib.join,List.intercalate]
 rw[ba,hc];apply List.ext_getElem?;intro n;rw[List.getElem?_map];by_cases hn:n<k.fs.length
 ·rw[List.getElem?_range hn,Option.map_some]
  obtain⟨w,e⟩:∃w,(bw k c)[n]? =some w:=⟨_,List.getElem?_eq_getElem (by rw[mB];exact hn)⟩
  rw[e,Ih e]
 ·rw[List.getElem?_eq_none (by simpa using hn),List.getElem?_eq_none (by rw[mB];omega)];rfl
end Go.Proofs.YtekcidbpejicdaaGreatDoor
