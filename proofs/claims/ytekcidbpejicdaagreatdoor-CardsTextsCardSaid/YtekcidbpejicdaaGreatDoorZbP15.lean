/- Contracts of functions: under the conditions named at each theorem. -/
import Derived.Test.YtekcidbpejicdaaGreatDoorZbP14
import Derived.Carry
import Derived.ChangeMaps5
import Derived.LaidMore
import Derived.Lay
import Derived.Stop.Joined
import Derived.Test.YtekcidbpejicdaaGreatDoorRows
namespace Go.Proofs.YtekcidbpejicdaaGreatDoor
set_option linter.unusedVariables false
set_option linter.unusedSimpArgs false
open Go Go.Av Go.RowKit
def il:List Bytes:=[bB,dV]
def sw(n:Bytes)(l:List Bytes):List (Ln×Bool):=l.map fun v=>lnN n (esc v)
def wc(c:List Val)(told:Nat→List Bytes)(i:Nat):List (Ln×Bool):=match il[i]? with
 |some n=>sw n (dN (bR c (6+i)) (told (6+i)))
 |none=>[]
def jb(c:List Val)(told:Nat→List Bytes)(i:Nat):List (Ln×Bool):=(List.range i).flatMap (wc c told)
theorem oX(c:List Val)(told:Nat→List Bytes)(i:Nat):jb c told (i+1)=jb c told i++wc c told i:=by
 rw[jb,List.range_succ,List.flatMap_append];simp[jb]
theorem Cu(c:List Val)(told:Nat→List Bytes)(i b:Nat)(h:∀f,(bR c f).length≤b):(wc c told i).length≤b:=by
 unfold wc;split
 ·simp only[sw,List.length_map];exact Nat.le_trans (qy _ _) (h _)
 ·simp
theorem qE(c:List Val)(told:Nat→List Bytes)(b:Nat)(h:∀f,(bR c f).length≤b):∀i,(jb c told i).length≤b*i
 |0=>by simp[jb]
 |i+1=>by
  have:=qE c told b h i;have:=Cu c told i b h;rw[oX,List.length_append,Nat.mul_add];omega
structure ze (H:List OB) (c:List Val) (ver:Bytes) (L:List (Ln×Bool)):Prop where
 con:H[1]? =some (.cells (c.map aF) false)
 two:H[2]? =some (.cells [.str [],.nilsl] false)
 blk:∃ov,H[3]? =some (.cells [.str ver,ov] false)∧pE H ov L
 fn:H[4]? =some (.cells [oU] false)
 dfr:H[8]? =some .dfr
theorem ze.add{H:List OB}{c:List Val}{ver:Bytes}{L:List (Ln×Bool)}(h:ze H c ver L)(q:Ln×Bool)(hl:L.length<1000000):
    ∃N,aY Tryz.prog 55 [.vsl 5 true [eF q],.ptr 3 0] H (.ret (.tup [])) N∧ze N c ver (L++[q]):=by
  obtain⟨ov,h3,ho⟩:=h.blk;obtain⟨M,hlen,hnew,hold,hsh⟩:=Gf h3 ho q hl;have l3:=(List.getElem?_eq_some_iff.1 h3).1;have hk: ∀(j:Nat) (o:OB),j≠3→H[j]? =some o→(∀cs,o≠OB.cells cs true)→(M.set 3 (.cells [.str ver,.sl H.length 0 (L.length+1) 5] false))[j]? =some o:=fun j o h1 h2 h4=>by
    rw[List.getElem?_set_ne (by omega),hold j (List.getElem?_eq_some_iff.1 h2).1 fun n e=> ?_]
    · exact h2
    · obtain⟨cs,hc⟩:=ho.lt e
      rw[h2]at hc;exact h4 cs (Option.some.inj hc)
  refine⟨_,hsh,hk 1 _ (by omega) h.con (fun cs e=>by cases e),hk 2 _ (by omega) h.two (fun cs e=>by cases e),⟨_,by rw[List.getElem?_set_self (by omega)],.inr ⟨H.length,by simp,?_⟩⟩,hk 4 _ (by omega) h.fn (fun cs e=>by cases e),hk 8 _ (by omega) h.dfr (fun cs e=>by cases e)⟩;rw[List.getElem?_set_ne (by omega)];exact hnew
abbrev U1(us:List AV):List (Nat×AV):=[(3,.ptr 1 0),(4,.ptr 2 0),(5,.ptr 3 0),(6,.ptr 4 0),(7,.vptr us)]
abbrev U3(us:List AV)(i:Nat):List (Nat×AV):=(130,.int .i64 (i:Int))::(129,.int .i64 2)::(128,.vsl 0 true (il.map .str))::U1 us
def IH(c:List Val)(ver:Bytes)(L:List (Ln×Bool))(told:Nat→List Bytes)(us:List AV)(i:Nat)(a:St):Prop:=aC a.T (U3 us i)∧ze a.H c ver (L++jb c told i)∧a.D=[.mark 8]∧i≤2
theorem zf{i:Nat}{n:Bytes}(h:il[i]? =some n):∃k,aV n=some k∧k.fs=[6+i]:=by
 match i,h with
 |0,h=>cases h;exact⟨_,rfl,rfl⟩
 |1,h=>cases h;exact⟨_,rfl,rfl⟩
 |i+2,h=>simp[il]at h
theorem II(us:List AV)(f:Nat)(hf:f<8)(X:List OB):ak Tryz.prog 27 (.vptr us) (.int .i64 (f:Int)) X=some (.vptr (us.drop f)):=by
 simp[ak,bt,Tryz.underlying27,ph,hf]
set_option maxRecDepth 8000 in
theorem K3 {c:List Val} {ver:Bytes} {L:List (Ln×Bool)} {told:Nat→List Bytes} {us:List AV} {Q:Ex→St→Prop} {a:St} (hc:c.length=8) (hcb: ∀f,f<8→ ∀s∈bR c f,s.length≤1000000) (hcl: ∀f,(bR c f).length≤10000) (hL:L.length≤900000)
    (hus:us.length=8) (hut: ∀(f:Nat) (u:AV),us[f]? =some u→u.hf=true∧Le u (.vsl 0 false ((told f).map .str))) (h:IH c ver L told us 0 a)
    (hQ: ∀a',IH c ver L told us 2 a'→Q .normal a'):W Tryz.prog 162 0 none (.loop lp6) (aO 6 Q) a:=by
  refine W.loop (X:=Nat) (fun i a=>IH c ver L told us i a) (fun i=>2 - i) 0 h ?_;clear h a;rintro i ⟨T,H,D⟩ ⟨hT,hI,rfl,hi⟩;simp only at hT hI;refine W.bG _ hT ?_;show W Tryz.prog 162 0 none (.seq (.region 32 _ _) (.seq (.cond _ .skip (.exit 6)) _)) _ _;by_cases h:i<2
  · obtain⟨n,hn,_⟩:=drop_at (show i<il.length from h)
    obtain⟨k,hk,hkf⟩:=zf hn;have hia: ∀X,ak Tryz.prog 25 (.vsl 0 true (il.map .str)) (.int .i64 (i:Int)) X=some (.vptr [.str n]):=fun X=>eJ (v:=.str n) (by simp[hn]) rfl X;have hkv:=vQ;have hlk:=Cr n;rw[hk,lz]at hlk;have hf8:6+i<8:=by omega
    have hi0: ∀X,ak Tryz.prog 64 (fsV k) (.int .i64 0) X=some (.vptr [.int .i64 ((6+i:Nat):Int)]):=fun X=>yy (v:=.int .i64 ((6+i:Nat):Int)) (by simp[hkf]) rfl X;have hic:=iv 1 (6+i) hf8;obtain⟨w,hw⟩: ∃w,c[6+i]? =some w:=⟨_,List.getElem?_eq_getElem (by omega)⟩
    have hldc:ao Tryz.prog 25 (.ptr 1 (6+i)) H=some (aF w):=qp _ 1 _ c w false hI.con hw;obtain⟨u,hu⟩: ∃u,us[6+i]? =some u:=⟨_,List.getElem?_eq_getElem (by omega)⟩
    obtain⟨hu1,hu2⟩:=hut _ _ hu;have hfv:=iU c (6+i) w hw;obtain⟨wx,wl⟩:=w;simp only[aF]at hldc hfv;have hwl:wl.length≤10000:=by have:=hcl (6+i);rwa[hfv]at this
    have hmv:=ad.le (.cons _ _ _ _ (.refl _) (.cons _ _ _ _ hu2 .nil)) (KI wx false wl (told (6+i)) (by omega));have hiu: ∀X,ak Tryz.prog 27 (.vptr us) (.int .i64 ((6+i:Nat):Int)) X=some (.vptr (us.drop (6+i))):=II us (6+i) hf8;have hfd: ∀a b d:AV,mW Tryz.prog 66 (.agg [a,b,d]) 0=some a:=fun a b d=>by kernel_rfl
    have hlu: ∀X,ao Tryz.prog 25 (.vptr (us.drop (6+i))) X=some u:=by
      intro X;obtain⟨u2,hu3,hd⟩:=drop_at (show 6+i<us.length by omega);rw[hu]at hu3;cases hu3;rw[hd];exact I7 _ _ _
    obtain⟨m,hm⟩: ∃m,m=dN wl (told (6+i)):=⟨_,rfl⟩
    rw[←hm]at hmv;have hml:m.length≤10000:=by rw[hm];exact Nat.le_trans (qy _ _) hwl
    have hmb: ∀s∈m,s.length≤1000000:=fun s hs=>hcb (6+i) hf8 s (by rw[hfv];rw[hm]at hs;exact(List.mem_filter.1 hs).1);have hnf:wc c told i=sw n m:=by unfold wc;rw[hn,hfv,hm]
    have hnl:=qE c told 10000 hcl i;have hlm: ∀X,aI Tryz.prog 25 (.vsl 0 false (m.map .str)) X=some (.int .i64 m.length):=by intro X;simp[aI,Tryz.underlying25]
    have hh:=wb k;generalize hF:fsV k=Fk at*;generalize hKd:(AV.vmap (fc.map .str) fW)=Kd at*;refine .vc (by decide) ?_
    repeat'(first|(simp(disch:=first|omega|(simp only[zL];omega))only[go_sem,seval,hia,hlk,hfd,hi0])|((with_reducible first|apply aj.pure|apply ar.pure);(with_reducible exact hkv);(first|rfl|simp only[go_sem])))
    refine W.bw [] [false,false,false,false,false,false,false,false,false] [] mixed (by kernel_rfl) (by kernel_rfl) (by kernel_rfl) ?_
    repeat'(first|(simp(disch:=first|omega|(simp only[zL];omega))only[go_sem,seval,hic,hldc,hiu,hlu,hlm])|((with_reducible first|apply aj.pure|apply ar.pure);(with_reducible exact hmv);(first|rfl|simp only[go_sem,az,hu1])))
    refine W.loop (X:=Nat) (fun j a=>aC a.T ((148,.int .i64 (j:Int))::(147,.int .i64 m.length)::(146,.vsl 0 false (m.map .str))::(18,.str n)::U3 us i)∧ze a.H c ver (L++jb c told i++sw n (m.take j))∧a.D=[.mark 8]∧j≤m.length) (fun j=>m.length - j) 0
      ⟨⟨rfl,rfl,rfl,rfl,rfl,rfl,rfl,rfl,rfl,rfl,rfl,rfl,trivial⟩,by rw[List.take_zero];simpa[sw]using hI,rfl,Nat.zero_le _⟩ ?_
    rintro j ⟨T2,H2,D2⟩ ⟨hT2,hI2,rfl,hj⟩;simp only at hT2 hI2;refine W.bG _ hT2 ?_;by_cases h3:j<m.length
    · obtain⟨s,hs,_⟩:=drop_at h3
      have q1: ∀X,ak Tryz.prog 25 (.vsl 0 false (m.map .str)) (.int .i64 (j:Int)) X=some (.vptr [.str s]):=fun X=>eJ (v:=.str s) (by simp[hs]) rfl X;have q2:=IB s (hmb s (List.mem_of_getElem? hs));obtain⟨N,hsh,hIN⟩:=hI2.add (lnN n (esc s)) (by simp[sw];omega);have hbq:=E9 (lnN n (esc s));have hbd:=bdQ n (esc s);have p6:=ug hI2.fn;generalize eF (lnN n (esc s))=Qn at*;refine .vc (by decide) ?_
      repeat'(first|(simp(disch:=first|omega|(simp only[zL];omega))only[go_sem,seval,q1]))
      refine W.bw [6] [false,false,false,false,false,false,true] [] mixed (by kernel_rfl) (by kernel_rfl) (by kernel_rfl) ?_
      repeat'(first|(simp(disch:=first|omega|(simp only[zL];omega))only[go_sem,seval,p6,hbd,hbq])|(guard_target=~ ar _ _ _ _ _ _ _;refine ar.sh hsh ?_)|((with_reducible first|apply aj.pure|apply ar.pure);(with_reducible exact q2);(first|rfl|simp only[go_sem])))
      refine⟨j+1,⟨⟨rfl,rfl,rfl,rfl,rfl,rfl,rfl,rfl,rfl,rfl,rfl,rfl,trivial⟩,?_,h3⟩,by omega⟩;have e:sw n (m.take (j+1))=sw n (m.take j)++[lnN n (esc s)]:=by rw[sw,List.take_add_one,hs,List.map_append];rfl
      rw[e,←List.append_assoc];exact hIN
    · have e:j=m.length:=by omega
      subst e;rw[List.take_length]at hI2;refine .vc (by decide) ?_
      repeat'(first|(simp(disch:=first|omega|(simp only[zL];omega))only[go_sem,seval]))
      exact⟨i+1,⟨⟨rfl,rfl,rfl,rfl,rfl,rfl,rfl,rfl,trivial⟩,by rw[oX,hnf,←List.append_assoc];exact hI2,rfl,h⟩,by omega⟩
  · have e:i=2:=by omega
    subst e;refine .vc (by decide) ?_
    repeat'(first|(simp(disch:=first|omega|(simp only[zL];omega))only[go_sem,seval]))
    exact hQ _ ⟨⟨rfl,rfl,rfl,rfl,rfl,rfl,rfl,rfl,trivial⟩,hI,rfl,hi⟩
theorem ad.K4{P:Program}{f:FuncId}{args:List AV}{r r':AV}(h:ad P f args (.ret r))(hs:Sb r r'):ad P f args (.ret r'):=by
 intro F w Vs hlt hv;refine(h F w Vs hlt hv).mono ?_;rintro e w' ⟨h1,F',h2,h3,h4,ho⟩;refine⟨h1,F',h2,h3,h4,?_⟩;cases ho with
 |ret _ V hV=>exact .ret r' V (hs _ _ _ hV)
def zg(c:Cd)(x:List Val):List (Ln×Bool):=eK x c.ls++eL (cy x c.ls) x bh++jb x (cD x c.ls) 2
def sx(c:Cd)(x:List Val):Cd:=⟨c.ver,false,(zg c x).map (·.1)⟩
theorem Cv(c:Cd)(x:List Val):∀q∈zg c x,q.2=true→q.1.ps=[]:=by
 intro q hq h;unfold zg at hq;rcases List.mem_append.1 hq with hq|hq
 ·rcases List.mem_append.1 hq with hq|hq
  ·obtain⟨l,_,h1⟩:=List.mem_flatMap.1 hq
   split at h1
   ·simp at h1;subst h1;cases h
   ·cases h1
  ·obtain⟨n,_,h1⟩:=List.mem_flatMap.1 hq
   unfold su at h1;split at h1
   ·cases h1
   ·simp at h1;subst h1;rfl
 ·obtain⟨i,_,h1⟩:=List.mem_flatMap.1 hq
  unfold wc at h1;split at h1
  ·obtain⟨v,_,rfl⟩:=List.mem_map.1 h1;rfl
  ·cases h1
def dg(vs:List AV):List Nat:=vs.filterMap fun v=>match v with| .sl d _ _ _=>some d|_=>none
theorem lB{vs:List AV}{i:Nat}(h:∀(f n:Nat),vs[f]? ≠some (AV.sl i 0 n 0))(ho:∀(f:Nat) (v:AV),vs[f]? =some v→v=.nilsl∨v=.vsl 0 true []∨∃d n,v=.sl d 0 n 0):i∉dg vs:=by
 intro hm;obtain⟨v,hv,he⟩:=List.mem_filterMap.1 hm;obtain⟨f,hf⟩:=List.getElem?_of_mem hv;rcases ho f v hf with rfl|rfl|⟨d,n,rfl⟩
 ·cases he
 ·cases he
 ·simp at he;subst he;exact h f n hf
theorem Cw{H:List OB}{b:Nat}{vs:List AV}{xs:Nat→List Bytes}(h:bL H b vs xs):∃us,fz (cg (b::dg vs) 0 H) 20 (.ptr b 0)=some (.vptr us)∧us.length=8∧∀(f:Nat) (u:AV),us[f]? =some u→u.hf=true∧Le u (.vsl 0 false ((xs f).map .str)):=by
 have hk:∀(f:Nat) (v:AV),vs[f]? =some v→iy (cg (b::dg vs) 0 H) v (xs f):=fun f v hv=>(h.own f v hv).fE fun d n e=>by
  rw[jh];have:(b::dg vs).contains d=true:=by
   have:d∈dg vs:=List.mem_filterMap.2 ⟨v,List.mem_of_getElem? hv,by rw[e]⟩;simp[this]
  rw[Nat.zero_add,this];cases H[d]?<;>simp
 have hone:∀(k f:Nat) (v:AV),vs[f]? =some v→∃u,fz (cg (b::dg vs) 0 H) (k+1) v=some u∧u.hf=true∧Le u (.vsl 0 false ((xs f).map .str)):=by
  intro k f v hv;rcases hk f v hv with⟨e,rfl|rfl⟩|⟨d,rfl,hd⟩
  ·rw[e];exact⟨_,rfl,rfl,.nils _ _⟩
  ·rw[e];exact⟨_,rfl,rfl,.nil _ _ _⟩
  ·have:=iY (k:=k) hd (Nat.le_refl _)
   rw[List.take_length]at this;exact⟨_,this,by simp[AV.hf,az],.refl _⟩
 have hmap:∀(k:Nat) (l:List AV) (o:Nat),(∀(f:Nat) (v:AV),l[f]? =some v→vs[o+f]? =some v)→∃us,l.mapM (fz (cg (b::dg vs) 0 H) (k+1))=some us∧us.length=l.length∧∀(f:Nat) (u:AV),us[f]? =some u→u.hf=true∧Le u (.vsl 0 false ((xs (o+f)).map .str)):=by
  intro k l;induction l with
  |nil=>intro o _;exact⟨[],rfl,rfl,fun f u h=>by simp at h⟩
  |cons a l ih=>
   intro o hl;obtain⟨u,q1,q2,q3⟩:=hone k (o+0) a (hl 0 a rfl);obtain⟨us,p1,p2,p3⟩:=ih (o+1) fun f v hv=>by have:=hl (f+1) v (by simpa using hv);rwa[show o+(f+1)=o+1+f by omega]at this
   refine⟨u::us,by simp[List.mapM_cons,q1,p1],by simp[p2],fun f w hw=>?_⟩;cases f with
   |zero=>simp at hw;subst hw;exact⟨q2,q3⟩
   |succ f=>rw[show o+(f+1)=o+1+f by omega];exact p3 f w (by simpa using hw)
 obtain⟨us,p1,p2,p3⟩:=hmap 18 vs 0 fun f v hv=>by rw[Nat.zero_add];exact hv
 have hb:(cg (b::dg vs) 0 H)[b]? =some (.cells vs false):=by rw[jh,h.blk];simp
 refine⟨us,?_,by rw[p2,h.len],fun f u hu=>by have:=p3 f u hu;rwa[Nat.zero_add]at this⟩;by_cases hh:AV.hfs vs=true
 ·have:us=vs:=by
   have e:=gL (H:=cg (b::dg vs) 0 H) (k:=18) hh;rw[e]at p1;exact(Option.some.inj p1).symm
  subst this;exact vf hb (by omega) (by rw[List.drop_zero];exact hh)
 ·unfold fz
  rw[if_neg (by simp[AV.hf])];simp only[hb,List.drop_zero,Nat.zero_le,if_true,hh,Bool.false_eq_true,if_false];rw[p1];rfl
theorem IJ{P:Program}{rs:List ResultVar}{T:List (Nat×AV)}{K:List OB}{v w r:AV}{d:Nat}(t ty:Nat)(hr:rs=[.cell t ty])(hd:K[d]? =some .dfr)(hl:ao P ty (Av.get T t) (K.set d .dead)=some v)(hz:fz (K.set d .dead) 20 v=some w)(he:Le w r):eI P rs (.ret r) .ret ⟨T,K,[.mark d]⟩:=by
 subst hr;exact vo (qe hd) (Hp t ty hl) hz he
set_option maxRecDepth 100000 in
theorem K5 (c:Cd) (x:List Val) (hx:x.length=8) (hcb: ∀f,f<8→ ∀s∈bR x f,s.length≤1000000) (hcl: ∀f,(bR x f).length≤10000) (hn:c.ls.length≤1000) (hv: ∀l∈c.ls,l.v.length≤900000) (hp: ∀l∈c.ls,l.ps.length≤1000000):
    ad Tryz.prog 26 [bV c,.agg (x.map aF)] (.ret (.agg [.str c.ver,.vsl 5 false ((zg c x).map eF)])):=by
  have hlv:=BX c
  have hst:=fun(H:List OB) (hJ:jL c.ver x c.ls 0 H)=>BZ 9 c (by omega) (fun _=>true) H (jL c.ver x c.ls) (fun _=>False) hJ (fun i K M h=>Fa M h) (fun i l K hl hJ=>by
    have hi:=(List.getElem?_eq_some_iff.1 hl).1;have hlm:=List.mem_of_getElem? hl;cases hk:aV (small l.n)with
    | none=>
      obtain⟨K',h1,h2⟩:=uh hl (by omega) (hp l hlm) hk hJ;exact⟨K',.inl ⟨rfl,h1,h2⟩⟩
    | some k=>
      cases hs:(eG x l).2 with
      | false=>
        obtain⟨K',h1,h2⟩:=ui hx hcb hl (hv l hlm) (hp l hlm) hk hs hJ;exact⟨K',.inl ⟨rfl,h1,h2⟩⟩
      | true=>
        obtain⟨K',h1,h2⟩:=sr hx hcb hl (by omega) (hv l hlm) (hp l hlm) hk hs hJ
        exact⟨K',.inl ⟨rfl,h1,h2⟩⟩)
  have hlL:zg c x=eK x c.ls++eL (cy x c.ls) x bh++jb x (cD x c.ls) 2:=rfl;obtain⟨ver,fx,ls⟩:=c;have hLh:=bq ls;have hxh:=br x;simp only[bV]at hlv hst hLh hlL hn ⊢;generalize zg ⟨ver,fx,ls⟩ x=LL at hlL ⊢;generalize hL:ls.map aw=L at*;have hxc:(x.map aF).length=8:=by simp[hx]
  refine ad.of Tryz.func26 rfl (ab enters Tryz.func26 rfl) (by simp[Tryz.ntmps26]) ?_;show W Tryz.prog 162 0 none (.seq (.region 0 _ _) (.seq (.region 1 _ _) (.seq (.region 2 _ _) (.seq (.region 3 _ _) (.seq (.region 4 _ _) (.seq (.seq (.region 5 _ _) _) (.seq (.seq (.region 17 _ _) (.block 2 (.loop lp2))) (.seq (.seq (.region 31 _ _) (.block 6 (.loop lp6))) (.seq (.region 41 _ _) .ret))))))))) _ _;have hbv:bW Tryz.prog 24 [(0,.str ver)]=some (.agg [.str ver,.nilsl]):=by kernel_rfl
  refine .seq (.vc (by decide) ?_)
  repeat'(first|(simp(disch:=first|omega|(simp only[zL];omega))only[go_sem,seval]))
  refine .seq (.vc (by decide) ?_)
  repeat'(first|(simp(disch:=first|omega|(simp only[zL];omega))only[go_sem,seval,hbv]))
  refine .seq (.vc (by decide) ?_)
  repeat'(first|(simp(disch:=first|omega|(simp only[zL];omega))only[go_sem,seval]))
  refine .seq (.vc (by decide) ?_)
  repeat'(first|(simp(disch:=first|omega|(simp only[zL];omega))only[go_sem,seval]))
  refine .seq (.vc (by decide) ?_)
  repeat'(first|(simp(disch:=first|omega|(simp only[zL];omega))only[go_sem,seval,lG]))
  refine .seq (.vc (by decide) ?_)
  repeat'(first|(simp(disch:=first|omega|(simp only[zL];omega))only[go_sem,seval])|((with_reducible first|apply aj.pure|apply ar.pure);(with_reducible exact hlv);(first|rfl|simp only[go_sem,hLh])))
  have hJ0: ∀(A:OB) (T:List (Nat×AV)),aC T [(3,.ptr 1 0),(6,.ptr 4 0),(7,.ptr 5 0),(8,.ptr 7 0)]→jL ver x ls 0 ([A,.cells (x.map aF) false,.cells [.str [],.nilsl] false,.cells [.str ver,.nilsl] false,.cells [oU] false,.cells bX false,.map [] [],.cells [.map 6] false]++[.dfr,.loop T lkL]):=
    fun A T hT=>⟨rfl,⟨.nilsl,bX,rfl,rfl,.inl ⟨rfl,rfl⟩,by rw[List.take_zero];exact bL.none rfl,fun d n e=>by cases e⟩,rfl,rfl,rfl,rfl,T,rfl,hT⟩
  refine W.fN (gf:=68) (fs:=[]) (cs:=[.vptr [.str ver,.vsl 5 fx L],.vptr [.vmap (fc.map .str) fW]]) rfl (ab enters Tryz.func68 rfl) (hst _ (hJ0 _ _ ⟨rfl,rfl,rfl,rfl,trivial⟩)) ?_;rintro out K ⟨rfl,⟨_,hJ⟩|⟨_,hf⟩⟩
  case inr=>exact hf.elim
  obtain⟨m1,⟨ov,vs,hg⟩,m4,m6,m7,m8,T',m9,hT0⟩:=hJ;rw[List.take_length]at hg m6;refine⟨_,T',lkL,rfl,m9,by simp[lkL],?_⟩;show cw _ _ _ _ _ none;clear hst hJ0;obtain⟨M,hM⟩: ∃M,M=K.set 9 .dead:=⟨_,rfl⟩
  have gM: ∀j o,j≠9→K[j]? =some o→M[j]? =some o:=fun j o hj h=>by rw[hM,List.getElem?_set_ne (by omega)];exact h
  have hMI:oW M x ver (eK x ls) (cD x ls) (cy x ls):=⟨gM 1 _ (by omega) m1,⟨ov,vs,by rw[hM];exact hg.set _ m9 (fun cs e=>by cases e) (by omega) (by omega)⟩,gM 4 _ (by omega) m4,gM 6 _ (by omega) m6,gM 7 _ (by omega) m7,gM 8 _ (by omega) m8⟩
  simp only[cw,aO,ai];refine W.bG T1 ⟨rfl,rfl,rfl,rfl,rfl,rfl,trivial⟩ ?_;show W Tryz.prog 162 0 none _ _ ⟨T1,K.set 9 .dead,[.mark 8]⟩;rw[←hM];clear hM gM m1 m4 m6 m7 m8 m9 hT0 hg K T' ov vs;have hol:=oT x ls;have hb5:au Tryz.prog 25 5 [(0,.str [102,110]),(1,.str [110]),(2,.str [111,114,103]),(3,.str [116,105,116,108,101]),(4,.str [110,111,116,101])]=some (.vsl 0 true (bh.map .str)):=by kernel_rfl
  have hb2:au Tryz.prog 25 2 [(0,.str [101,109,97,105,108]),(1,.str [116,101,108])]=some (.vsl 0 true (il.map .str)):=by kernel_rfl
  have hl5: ∀X,aI Tryz.prog 25 (.vsl 0 true (bh.map .str)) X=some (.int .i64 5):=by intro X;simp[aI,Tryz.underlying25,bh]
  have hl2: ∀X,aI Tryz.prog 25 (.vsl 0 true (il.map .str)) X=some (.int .i64 2):=by intro X;simp[aI,Tryz.underlying25,il]
  refine .seq (.vc (by decide) ?_)
  repeat'(first|(simp(disch:=first|omega|(simp only[zL];omega))only[go_sem,seval,hb5,hl5]))
  refine K0 hx hcb (L:=eK x ls) (xs:=cD x ls) (th:=cy x ls) (ver:=ver) (by omega) ⟨⟨rfl,rfl,rfl,rfl,rfl,rfl,rfl,rfl,rfl,trivial⟩,by simpa[eL]using hMI,rfl,Nat.zero_le _⟩ ?_;clear hMI M;rintro⟨T,M,D⟩ ⟨hT,hI,rfl,_⟩;simp only at hT hI;rw[List.take_of_length_le (show bh.length≤5 from Nat.le_refl _)]at hI;obtain⟨ov,vs,hg⟩:=hI.grow;obtain⟨us,f1,f2,f3⟩:=Cw hg.con;simp only[ai];have hown: ∀(f:Nat) (v:AV),vs[f]? =some v→v=.nilsl∨v=.vsl 0 true []∨ ∃d n,v=.sl d 0 n 0:=fun f v hvf=>by
    rcases hg.con.own f v hvf with⟨_,h|h⟩|⟨d,h,_⟩
    · exact .inl h
    · exact .inr (.inl h)
    · exact .inr (.inr ⟨d,_,h⟩)
  have hkeep: ∀(j:Nat) (o:OB),j≠5→M[j]? =some o→(∀cs,o≠OB.cells cs true)→(cY (5::dg vs) 0 M)[j]? =some o:=fun j o hj ho hno=>by
    rw[lA]
    · exact ho
    · intro hm
      rcases List.mem_cons.1 hm with e|e
      · exact hj e
      · exact lB (hg.con.free ho hno) hown e
  have hold:pE (cY (5::dg vs) 0 M) ov (eK x ls++eL (cy x ls) x bh):=hg.own.fE fun d n e=>by
    obtain⟨cs,hcs⟩:=hg.own.lt e;rw[lA];intro hm;rcases List.mem_cons.1 hm with e2|e2
    · subst e2;rw[hg.con.blk]at hcs;injection(Option.some.inj hcs)with _ h;cases h
    · exact lB (hg.apart d n e) hown e2
  have hN:ze (cY (5::dg vs) 0 M) x ver (eK x ls++eL (cy x ls) x bh):=⟨hkeep 1 _ (by omega) hI.con (fun cs e=>by cases e),hkeep 2 _ (by omega) hg.two (fun cs e=>by cases e),⟨ov,hkeep 3 _ (by omega) hg.blk (fun cs e=>by cases e),hold⟩,hkeep 4 _ (by omega) hI.fn (fun cs e=>by cases e),hkeep 8 _ (by omega) hI.dfr (fun cs e=>by cases e)⟩
  obtain⟨t83,t82,t81,t3,t4,t5,t6,t7,t8,_⟩:=hT;refine W.JP (5::dg vs) (U1 us) ⟨.inl t3,.inl t4,.inl t5,.inl t6,.inr ⟨_,by rw[t7];exact f1,.refl _⟩,trivial⟩ ?_;have hnl:=qC (cy x ls) x bh;have hn5:bh.length=5:=rfl;show W Tryz.prog 162 0 none _ _ ⟨U1 us,cY (5::dg vs) 0 M,[.mark 8]⟩;generalize cY (5::dg vs) 0 M=M2 at*;clear t83 t82 t81 t3 t4 t5 t6 t7 t8 hkeep hold hown f1 hI hg;refine .seq (.vc (by decide) ?_)
  repeat'(first|(simp(disch:=first|omega|(simp only[zL];omega))only[go_sem,seval,hb2,hl2]))
  refine K3 hx hcb hcl (L:=eK x ls++eL (cy x ls) x bh) (told:=cD x ls) (us:=us) (ver:=ver) (by rw[List.length_append];omega) f2 f3 ⟨⟨rfl,rfl,rfl,rfl,rfl,rfl,rfl,rfl,trivial⟩,by simpa[jb]using hN,rfl,Nat.zero_le _⟩ ?_;clear hN M M2;rintro⟨T,M,D⟩ ⟨hT,hI,rfl,_⟩;simp only at hT hI;rw[←hlL]at hI;simp only[ai];obtain⟨ov,h3,ho⟩:=hI.blk;obtain⟨t130,t129,t128,t3,t4,t5,t6,t7,_⟩:=hT;refine W.bG [(4,.ptr 2 0),(5,.ptr 3 0)] ⟨t4,t5,trivial⟩ ?_;have l2:=(List.getElem?_eq_some_iff.1 hI.two).1;have k1:ao Tryz.prog 24 (.ptr 3 0) M=some (.agg [.str ver,ov]):=by
    simp[va,ldG,h3]
  have hoc:ov.isC=true∧ov.cells=[ov]:=by rcases ho with⟨_,rfl⟩|⟨d,rfl,_⟩<;>exact⟨rfl,rfl⟩
  have k2:aA Tryz.prog 24 (.ptr 2 0) (.agg [.str ver,ov]) M=some (M.set 2 (.cells [.str ver,ov] false)):=by
    rw[I6];simp[stC,hI.two,AV.cells,cz,show AV.isC (.str ver)=true from rfl,hoc.1]
  refine .vc (by decide) ?_
  repeat'(first|(simp(disch:=first|omega|(simp only[zL];omega))only[go_sem,seval,k1,k2]))
  obtain⟨M3,hM3⟩: ∃M3,M3=(M.set 2 (OB.cells [.str ver,ov] false)).set 8 .dead:=⟨_,rfl⟩
  have ho3:pE M3 ov LL:=ho.fE fun d n e=>by
    obtain⟨cs,hcs⟩:=ho.lt e;have d2:d≠2:=by rintro rfl;rw[hI.two]at hcs;injection(Option.some.inj hcs)with _ h;cases h
    have d8:d≠8:=by rintro rfl;rw[hI.dfr]at hcs;cases hcs
    rw[hM3,List.getElem?_set_ne (by omega),List.getElem?_set_ne (by omega)]
  have hs3:nT (4+1) eF M3 (deN ov) LL:=by
    rcases ho3 with⟨e,rfl⟩|⟨d,rfl,hd⟩
    · exact .inl ⟨e,0,rfl⟩
    · exact .inr ⟨d,rfl,hd⟩
  obtain⟨w,hw1,hw2⟩:=hG (k:=18) (n:=4) (by decide) (fun q=>⟨_,rfl,rfl⟩) (fun q=>by have:=E8 q;rw[eF,AV.hf]at this;exact this) hs3;have hwz: ∃w',fz M3 19 ov=some w'∧Le w' (.vsl 5 false (LL.map eF)):=by
    rcases ho3 with⟨e,rfl⟩|⟨d,rfl,hd⟩
    · exact⟨_,rfl,by rw[e];exact .nils _ _⟩
    · exact⟨w,hw1,hw2⟩
  obtain⟨w',hw3,hw4⟩:=hwz;refine IJ 4 24 rfl (by rw[List.getElem?_set_ne (by omega)];exact hI.dfr) (v:=.agg [.str ver,ov]) (w:=.agg [.str ver,w']) ?_ ?_ (.agg _ _ (.cons _ _ _ _ (.refl _) (.cons _ _ _ _ hw4 .nil)))
  · show ao _ _ (.ptr 2 0) _=_
    simp[va,ldG,List.getElem?_set_ne (show(8:Nat)≠2 by omega),List.getElem?_set_self l2]
  · rw[←hM3]
    refine jN ?_;simp only[List.mapM_cons,List.mapM_nil,dj (show AV.hf (.str ver)=true from rfl),hw3];rfl
theorem MO(c:Cd)(x:List Val)(hx:x.length=8)(hcb: ∀f,f<8→ ∀s∈bR x f,s.length≤1000000)(hcl: ∀f,(bR x f).length≤10000)(hn:c.ls.length≤1000)(hv: ∀l∈c.ls,l.v.length≤900000)(hp: ∀l∈c.ls,l.ps.length≤1000000):
    ad Tryz.prog 26 [bV c,.agg (x.map aF)] (.ret (bV (sx c x))):=
  ad.K4 (K5 c x hx hcb hcl hn hv hp) (.agg (.cons (.refl _) (.cons (.elems (ue _ (Cv c x))) .nil)))
def we:Cd:=⟨[],false,[]⟩
def qF(c:Cd)(x:List Val):Cd×Nat:=
 if aQ c=0∧eu (bR x)=true then(if(ofP c).2=0 then(if aQ (sx c x)=0 then(sx c x,0)else(we,3))else(we,(ofP c).2))else(we,2)
theorem Fi{c:Cd}(h:aQ c=0):∀l∈c.ls,l.ps.length≤8:=by
 have hr:bZ c=true:=by
  unfold aQ at h;split at h
  ·assumption
  ·cases h
 unfold bZ at hr;simp only[Bool.and_eq_true,decide_eq_true_eq,List.all_eq_true]at hr;intro l hl;have:=hr.2 l hl;simp only[bU,Bool.and_eq_true,decide_eq_true_eq]at this;have:=this.2.2.2.2.2.1;omega
theorem xP{x:List Val}(hx:x.length=8)(h:eu (bR x)=true):(∀f,f<8→∀s∈bR x f,s.length≤1000000)∧∀f,(bR x f).length≤10000:=by
 unfold eu at h;simp only[Bool.and_eq_true,List.all_eq_true,List.mem_range]at h;have key:∀f,f<8→eR f (bR x f)=true:=h.1;refine⟨fun f hf s hs=>?_,fun f=>?_⟩
 ·have:=key f hf
  simp only[eR,Bool.and_eq_true,List.all_eq_true,decide_eq_true_eq]at this;have:=this.2.1 s hs;simp only[fh,Bool.and_eq_true,decide_eq_true_eq]at this;omega
 ·by_cases hf:f<8
  ·have:=key f hf
   simp only[eR,Bool.and_eq_true,decide_eq_true_eq]at this;have h1:=this.1;have:fm f≤8:=by unfold fm;split<;>omega
   omega
  ·have:bR x f=[]:=by simp[bR,List.getD,List.getElem?_eq_none (show x.length≤f by omega)]
   rw[this];simp
theorem jc(c:List Val):(c.map aF).all AV.isC=true:=by
 rw[List.all_eq_true];intro v hv;obtain⟨r,_,rfl⟩:=List.mem_map.1 hv;rfl
theorem Cx:bW Tryz.prog 24 []=some (.agg [.str [],.nilsl]):=by kernel_rfl
theorem nr(x:Bool)(e:Int):Le (.tup [.agg [.str [],.nilsl],.int .i64 e]) (.tup [bV we,.int .i64 e]):=
 .tup _ _ (.cons _ _ _ _ (.agg _ _ (.cons _ _ _ _ (.refl _) (.cons _ _ _ _ (.nils _ _) .nil))) (.cons _ _ _ _ (.refl _) .nil))
theorem oY{rs:List ResultVar}{T:List (Nat×AV)}{K:List OB}{v:AV}{cs:List AV}{e:Int}(t s d:Nat)(hr:rs=[.cell t 24,.tmp s])(ht:Av.get T t=.ptr d 0)(hs:Av.get T s=.int .i64 e)(hd:K[d]? =some (.cells cs false))(hl:cs.length=2)(hv:AV.hfs cs=true)(hle:Le (.tup [.agg cs,.int .i64 e]) v):eI Tryz.prog rs (.ret v) .ret ⟨T,K,[]⟩:=by
 subst hr;refine vo (a1:=⟨T,K,[]⟩) (v:=.tup [.agg cs,.int .i64 e]) rfl (lS t 24 s ?_ hs) (dj (by simp[AV.hf,AV.hfs,hv])) hle;simp only[ht,va,ldG,hd];rw[if_pos (by omega),List.drop_zero,List.take_of_length_le (by omega)]
set_option maxRecDepth 8000 in
theorem K6(c:Cd)(x:List Val)(hx:x.length=8):ad Tryz.prog 12 [bV c,.agg (x.map aF)] (.ret (.tup [bV (qF c x).1,.int .i64 ((qF c x).2:Nat)])):=by
 have hck:=rG c;have hcv:=Ku x hx;have hof:=vW c;have ho:qF c x=if aQ c=0∧eu (bR x)=true then(if(ofP c).2=0 then(if aQ (sx c x)=0 then(sx c x,0)else(we,3))else(we,(ofP c).2))else(we,2):=rfl
 have hly:aQ c=0→eu (bR x)=true→ad Tryz.prog 26 [bV c,.agg (x.map aF)] (.ret (bV (sx c x))):=fun h1 h2=>
  MO c x hx (xP hx h2).1 (xP hx h2).2 (by have:=(kg h1).1;omega) (fun l hl=>by have:=((kg h1).2 l hl).1;omega) (fun l hl=>by have:=Fi h1 l hl;omega)
 have hck2:=rG (sx c x);have hoh:=br (bo (ofP c).1);have hlen:((bo (ofP c).1).map aF).length=8:=by rw[List.length_map,ck]
 have hoc:=jc (bo (ofP c).1);generalize sx c x=o at*;generalize qF c x=r at*;obtain⟨ver,fx,ls⟩:=c;obtain⟨over,ofx,ols⟩:=o;have hLh:=bq ls;have hOh:=bq ols;have hxh:=br x;have hxc:(x.map aF).length=8:=by simp[hx]
 simp only[bV]at hck hck2 hly hof ho ⊢;generalize hL:ls.map aw=L at*;generalize hOL:ols.map aw=OL at*;generalize hX:x.map aF=X at*;generalize hE:(ofP ⟨ver,fx,ls⟩).2=E at*;generalize(bo (ofP ⟨ver,fx,ls⟩).1).map aF=Y at*;have hldx:∀A Z,ao Tryz.prog 27 (.ptr 1 0) (A::.cells X false::Z)=some (.agg X):=by
  intro A Z;simp[pj,ldG,hxc];exact List.take_of_length_le (by omega)
 by_cases h0:aQ ⟨ver,fx,ls⟩=0
 case neg=>
  rw[if_neg (fun h=>h0 h.1)]at ho;subst ho;have hb:((aQ ⟨ver,fx,ls⟩:Nat):Int)≠0:=by omega
  refine ad.of Tryz.func12 rfl (ab enters Tryz.func12 rfl) (by simp[Tryz.ntmps12]) ?_;show W Tryz.prog 35 0 none _ _ _;refine W.vc (by decide) ?_
  repeat'(first|(simp(disch:=first|omega|(simp only[zL];omega))only[go_sem,seval,hldx,hb,Cx])|((with_reducible first|apply aj.pure|apply ar.pure);(with_reducible exact hck);(first|rfl|simp only[go_sem,hLh,hxh])))
  exact oY 4 5 2 rfl rfl rfl rfl rfl rfl (nr true _)
 rw[h0]at hck;by_cases h1:eu (bR x)=true
 case neg=>
  rw[if_neg (fun h=>h1 h.2)]at ho;subst ho;have h1':eu (bR x)=false:=by simpa using h1
  rw[h1',if_neg (by simp)]at hcv;refine ad.of Tryz.func12 rfl (ab enters Tryz.func12 rfl) (by simp[Tryz.ntmps12]) ?_;show W Tryz.prog 35 0 none _ _ _;refine W.vc (by decide) ?_
  repeat'(first|(simp(disch:=first|omega|(simp only[zL];omega))only[go_sem,seval,hldx,Cx])|((with_reducible first|apply aj.pure|apply ar.pure);(with_reducible assumption);(first|rfl|simp only[go_sem,hLh,hxh])))
  exact oY 4 5 2 rfl rfl rfl rfl rfl rfl (nr true _)
 rw[h1,if_pos rfl]at hcv;rw[if_pos ⟨h0,h1⟩]at ho;have hly:=hly h0 h1;have hsty:∀A B C,aA Tryz.prog 27 (.ptr 3 0) (.agg Y) [A,B,C,.cells [.nilsl,.nilsl,.nilsl,.nilsl,.nilsl,.nilsl,.nilsl,.nilsl] false]=some [A,B,C,.cells Y false]:=by
  intro A B C;exact eS (vs:=bX) rfl rfl hlen hoc rfl
 by_cases h2:E=0
 case neg=>
  rw[if_neg h2]at ho;subst ho;have hb:((E:Nat):Int)≠0:=by omega
  refine ad.of Tryz.func12 rfl (ab enters Tryz.func12 rfl) (by simp[Tryz.ntmps12]) ?_;show W Tryz.prog 35 0 none _ _ _;refine W.vc (by decide) ?_
  repeat'(first|(simp(disch:=first|omega|(simp only[zL];omega))only[go_sem,seval,hldx,hsty,hb,Cx])|((with_reducible first|apply aj.pure|apply ar.pure);(with_reducible assumption);(first|rfl|simp only[go_sem,hLh,hxh])))
  exact oY 4 5 2 rfl rfl rfl rfl rfl rfl (nr true _)
 rw[if_pos h2]at ho;rw[h2]at hof;by_cases h3:aQ ⟨over,ofx,ols⟩=0
 case neg=>
  rw[if_neg h3]at ho;subst ho;have hb:((aQ ⟨over,ofx,ols⟩:Nat):Int)≠0:=by omega
  refine ad.of Tryz.func12 rfl (ab enters Tryz.func12 rfl) (by simp[Tryz.ntmps12]) ?_;show W Tryz.prog 35 0 none _ _ _;refine W.vc (by decide) ?_
  repeat'(first|(simp(disch:=first|omega|(simp only[zL];omega))only[go_sem,seval,hldx,hsty,hb,Cx])|((with_reducible first|apply aj.pure|apply ar.pure);(with_reducible assumption);(first|rfl|simp only[go_sem,hLh,hxh,hOh])))
  exact oY 4 5 2 rfl rfl rfl rfl rfl rfl (nr true _)
 rw[if_pos h3]at ho;rw[h3]at hck2;subst ho;simp only[hOL];refine ad.of Tryz.func12 rfl (ab enters Tryz.func12 rfl) (by simp[Tryz.ntmps12]) ?_;show W Tryz.prog 35 0 none _ _ _;refine W.vc (by decide) ?_
 repeat'(first|(simp(disch:=first|omega|(simp only[zL];omega))only[go_sem,seval,hldx,hsty,Cx])|((with_reducible first|apply aj.pure|apply ar.pure);(with_reducible assumption);(first|rfl|simp only[go_sem,hLh,hxh,hOh])))
 exact oY 4 5 2 rfl rfl rfl rfl rfl (by simp[AV.hfs,AV.hf,hOh]) (.refl _)
theorem Cy(x:UInt8):okI true (low x).toNat=gP x.toNat:=by
 have:=iQ (fun x=>okI true (low x).toNat==gP x.toNat) (by decide+kernel) x;simpa using this
theorem IK(x:UInt8):okI false (low x).toNat=mR x.toNat:=by
 have:=iQ (fun x=>okI false (low x).toNat==mR x.toNat) (by decide+kernel) x;simpa using this
theorem zh(x:UInt8)(h:gP x.toNat=true):mR x.toNat=true:=by
 have:=iQ (fun x=>!gP x.toNat||mR x.toNat) (by decide+kernel) x;simp only[h,Bool.not_true,Bool.false_or]at this;exact this
theorem Fj(x:UInt8):low (low x)=low x:=by
 have:=iQ (fun x=>low (low x)==low x) (by decide+kernel) x;simpa using this
theorem um(s:Bytes):small (small s)=small s:=by
 simp only[small,List.map_map];congr 1;funext x;exact Fj x
theorem uo(s:Bytes):cQ s=eh (small s):=by
 simp[cQ,jQ,oi,um]
theorem uq:∀(i:Nat) (s:Bytes),1≤i→od i (small s)=s.all fun y=>mR y.toNat
 |i,[],_=>rfl
 |i,x::t,h=>by
  have hi:(i==0)=false:=by simp;omega
  have ih:=uq (i+1) t (by omega);simp only[small,List.map_cons,od,hi,List.all_cons,IK]at ih ⊢;rw[ih]
theorem Fm(s:Bytes):mB s=cQ s:=by
 rw[uo];cases s with
 |nil=>simp[mB,eh,small]
 | cons x t=>
  have h1:=uq 1 t (Nat.le_refl _);simp only[mB,eh,small,List.map_cons,od,beq_self_eq_true,Cy,List.all_cons,List.length_cons,List.length_map]at h1 ⊢;rw[h1];cases hl:gP x.toNat with
  |false=>simp
  | true=>
   rw[zh x hl];simp only[Bool.true_and];cases ha:(t.all fun y=>mR y.toNat)with
   |false=>simp
   |true=>
    simp only[Bool.and_true,Bool.true_and];have e1:decide (((t.length+1:Nat):Int)≥1)=true:=decide_eq_true (by omega);rw[e1,Bool.true_and];by_cases h:((t.length+1:Nat):Int)>64
    ·rw[decide_eq_true h,decide_eq_false (by omega)];rfl
    ·rw[decide_eq_false h,decide_eq_true (by omega)];rfl
theorem sy(s:Bytes):ad Tryz.prog 130 [.str s] (.ret (.bool (cQ s))):=by rw[←Fm];exact Er s
set_option maxRecDepth 8000 in
theorem Fo(p:Bytes×Bytes):ad Tryz.prog 146 [aD p] (.ret (.bool (dS p))):=by
 obtain⟨n,v⟩:=p;refine ad.DZ fun hfit=>?_;have hvl:v.length≤9223372036854775807:=hfit [.str n,.str v] (by simp[aD]) (.str v) (by simp);refine ad.of Tryz.func146 rfl (ab enters Tryz.func146 rfl) (by simp[Tryz.ntmps146]) ?_;show W Tryz.prog 32 0 none _ _ _;refine W.vc (by decide) ?_;simp only[aD]
 repeat'(first|(simp(disch:=first|omega|(simp only[zL];omega))only[go_sem,seval]))
 refine W.bc (X:=Nat) (fun i=>[(3,.int .i64 (i:Int)),(1,.ptr 0 0)]) (fun _=>[.cells [.str n,.str v] false]) (fun i=>i≤v.length∧(v.take i).all byP=true) (fun i=>v.length - i) 0 ⟨Nat.zero_le _,by simp⟩ ⟨rfl,rfl,trivial⟩ rfl ?_;rintro i ⟨hi,hall⟩;refine .vc (by decide) ?_;by_cases h:i<v.length
 ·obtain⟨x,hx,_⟩:=drop_at h
  have bad:byP x=false→dS (n,v)=false:=by
   intro hb;simp only[dS,rQ hx hb,Bool.and_false]
  by_cases h1:x.toNat<32
  ·have hb:byP x=false:=by simp[byP];omega
   rw[bad hb]
   repeat'(first|(simp(disch:=first|omega|(simp only[zL];omega))only[go_sem,seval,xi9 hx]))
   exact⟨_,rfl,_,rfl,.refl _⟩
  ·by_cases h2:x.toNat=34
   ·have hb:byP x=false:=by simp[byP,h2]
    rw[bad hb]
    repeat'(first|(simp(disch:=first|omega|(simp only[zL];omega))only[go_sem,seval,xi9 hx]))
    exact⟨_,rfl,_,rfl,.refl _⟩
   ·have hb:byP x=true:=by simp[byP];omega
    repeat'(first|(simp(disch:=first|omega|(simp only[zL];omega))only[go_sem,seval,xi9 hx]))
    exact⟨i+1,⟨by omega,all_succ hx hall hb⟩,by omega,⟨rfl,rfl,trivial⟩⟩
 ·have e:i=v.length:=by omega
  subst e;rw[List.take_length]at hall;have hn:=sy n;have e2:dS (n,v)=(cQ n&&decide ((v.length:Int)≤100)):=by simp only[dS,hall,Bool.and_true]
  rw[e2];cases hb:cQ n with
  | true=>
   rw[hb]at hn;by_cases h3:v.length≤100
   ·rw[decide_eq_true (show(v.length:Int)≤100 by omega)]
    repeat'(first|(simp(disch:=first|omega|(simp only[zL];omega))only[go_sem,seval])|((with_reducible first|apply aj.pure|apply ar.pure);(with_reducible exact hn);(first|rfl|simp only[go_sem])))
    exact⟨_,rfl,_,rfl,.refl _⟩
   ·rw[decide_eq_false (show¬(v.length:Int)≤100 by omega)]
    repeat'(first|(simp(disch:=first|omega|(simp only[zL];omega))only[go_sem,seval])|((with_reducible first|apply aj.pure|apply ar.pure);(with_reducible exact hn);(first|rfl|simp only[go_sem])))
    exact⟨_,rfl,_,rfl,.refl _⟩
  |false=>
   rw[hb]at hn
   repeat'(first|(simp(disch:=first|omega|(simp only[zL];omega))only[go_sem,seval])|((with_reducible first|apply aj.pure|apply ar.pure);(with_reducible exact hn);(first|rfl|simp only[go_sem])))
   exact⟨_,rfl,_,rfl,.refl _⟩
set_option maxRecDepth 8000 in
theorem IL (l:Ln):ad Tryz.prog 114 [aw l] (.ret (.bool (bU l))):=by
  refine ad.DZ fun hfit=> ?_;obtain⟨g,n,x,ps,v⟩:=l;have hvl:v.length≤9223372036854775807:=hfit [.str g,.str n,.vsl 3 x (ps.map aD),.str v] (by simp[aw]) (.str v) (by simp);have hpl:ps.length≤9223372036854775807:=by
    have:(ps.map aD).length≤9223372036854775807:=hfit [.str g,.str n,.vsl 3 x (ps.map aD),.str v] (by simp[aw]) (.vsl 3 x (ps.map aD)) (by simp);simpa using this
  refine ad.of Tryz.func114 rfl (ab enters Tryz.func114 rfl) (by simp[Tryz.ntmps114]) ?_;show W Tryz.prog 80 0 none _ _ _;simp only[aw];have hs:=oe n;have hn:=sy (small n);have hg:=sy g;cases c1:cQ (small n)with
  | false=>
    have e:bU ⟨g,n,x,ps,v⟩=false:=by simp[bU,c1]
    rw[c1]at hn;rw[e];refine .vc (by decide) ?_
    repeat'(first|(simp(disch:=first|omega|(simp only[zL];omega))only[go_sem,seval])|((with_reducible first|apply aj.pure|apply ar.pure);(with_reducible assumption);(first|rfl|simp only[go_sem])))
    exact⟨_,rfl,_,rfl,.refl _⟩
  |true=>
  rw[c1]at hn;cases c2:small n==iO with
  | true=>
    have e:bU ⟨g,n,x,ps,v⟩=false:=by simp[bU,c2]
    simp only[iO]at c2;rw[e];refine .vc (by decide) ?_
    repeat'(first|(simp(disch:=first|omega|(simp only[zL];omega))only[go_sem,seval,c2])|((with_reducible first|apply aj.pure|apply ar.pure);(with_reducible assumption);(first|rfl|simp only[go_sem])))
    exact⟨_,rfl,_,rfl,.refl _⟩
  |false=>
  cases c3:small n==vy with
  | true=>
    have e:bU ⟨g,n,x,ps,v⟩=false:=by simp[bU,c3]
    simp only[iO]at c2;simp only[vy]at c3;rw[e];refine .vc (by decide) ?_
    repeat'(first|(simp(disch:=first|omega|(simp only[zL];omega))only[go_sem,seval,c2,c3])|((with_reducible first|apply aj.pure|apply ar.pure);(with_reducible assumption);(first|rfl|simp only[go_sem])))
    exact⟨_,rfl,_,rfl,.refl _⟩
  |false=>
  cases c4:small n==bP with
  | true=>
    have e:bU ⟨g,n,x,ps,v⟩=false:=by simp[bU,c4]
    simp only[iO]at c2;simp only[vy]at c3;simp only[bP]at c4;rw[e];refine .vc (by decide) ?_
    repeat'(first|(simp(disch:=first|omega|(simp only[zL];omega))only[go_sem,seval,c2,c3,c4])|((with_reducible first|apply aj.pure|apply ar.pure);(with_reducible assumption);(first|rfl|simp only[go_sem])))
    exact⟨_,rfl,_,rfl,.refl _⟩
  |false=>
  have e0:bU ⟨g,n,x,ps,v⟩=((g==[]||cQ g)&&(decide ((ps.length:Int)≤8)&&(ps.all dS&&(decide ((v.length:Int)≤4000)&&v.all byL)))):=by
    simp only[bU,c1,c2,c3,c4,Bool.not_false,Bool.true_and]
  simp only[iO]at c2;simp only[vy]at c3;simp only[bP]at c4
  have loops: ∀(T:List (Nat×AV)),(g==[]||cQ g)=true→ps.length≤8→v.length≤4000→aC T [(1,.ptr 0 0)]→
      W Tryz.prog 80 0 none (match Tryz.f114.body with|some (.seq _ (.seq _ (.seq _ c)))=>c|_=>.skip) (eI Tryz.prog Tryz.f114.results.toList (.ret (.bool (bU ⟨g,n,x,ps,v⟩)))) ⟨T,[.cells [.str g,.str n,.vsl 3 x (ps.map aD),.str v] false],[]⟩:=by
    intro T q1 q2 q3 hT;rw[e0,q1,decide_eq_true (show(ps.length:Int)≤8 by omega),decide_eq_true (show(v.length:Int)≤4000 by omega)];simp only[Bool.true_and];refine W.bG _ hT ?_;show W Tryz.prog 80 0 none (.seq (.seq _ _) _) _ _;refine .vc (by decide) ?_
    repeat'(first|(simp(disch:=first|omega|(simp only[zL];omega))only[go_sem,seval]))
    refine W.bc (X:=Nat) (fun i=>[(4,.int .i64 (i:Int)),(1,.ptr 0 0)]) (fun _=>[.cells [.str g,.str n,.vsl 3 x (ps.map aD),.str v] false]) (fun i=>i≤ps.length∧(ps.take i).all dS=true) (fun i=>ps.length - i) 0 ⟨Nat.zero_le _,by simp⟩ ⟨rfl,rfl,trivial⟩ rfl ?_;rintro i ⟨hi,hall⟩;refine .vc (by decide) ?_;by_cases h:i<ps.length
    · obtain⟨u,hu,_⟩:=drop_at h
      have hia: ∀H,ak Tryz.prog 44 (.vsl 3 x (ps.map aD)) (.int .i64 (i:Int)) H=some (.vptr [.str u.1,.str u.2]):=fun H=>Ho (v:=aD u) (by simp[hu]) rfl H;have hpu:=Fo u;simp only[aD]at hpu;cases hb:dS u with
      | false=>
        rw[hb]at hpu;rw[rQ hu hb,Bool.false_and]
        repeat'(first|(simp(disch:=first|omega|(simp only[zL];omega))only[go_sem,seval,hia])|((with_reducible first|apply aj.pure|apply ar.pure);(with_reducible exact hpu);(first|rfl|simp only[go_sem])))
        exact⟨_,rfl,_,rfl,.refl _⟩
      | true=>
        rw[hb]at hpu
        repeat'(first|(simp(disch:=first|omega|(simp only[zL];omega))only[go_sem,seval,hia])|((with_reducible first|apply aj.pure|apply ar.pure);(with_reducible exact hpu);(first|rfl|simp only[go_sem])))
        exact⟨i+1,⟨by omega,all_succ hu hall hb⟩,by omega,⟨rfl,rfl,trivial⟩⟩
    · have e:i=ps.length:=by omega
      subst e;rw[List.take_length]at hall;rw[hall,Bool.true_and]
      repeat'(first|(simp(disch:=first|omega|(simp only[zL];omega))only[go_sem,seval]))
      refine W.bc (X:=Nat) (fun i=>[(5,.int .i64 (i:Int)),(1,.ptr 0 0)]) (fun _=>[.cells [.str g,.str n,.vsl 3 x (ps.map aD),.str v] false]) (fun i=>i≤v.length∧(v.take i).all byL=true) (fun i=>v.length - i) 0 ⟨Nat.zero_le _,by simp⟩ ⟨rfl,rfl,trivial⟩ rfl ?_;rintro i ⟨hi,hall2⟩;refine .vc (by decide) ?_;by_cases h:i<v.length
      · obtain⟨y,hy,_⟩:=drop_at h
        by_cases h1:y.toNat<32
        · by_cases h2:y.toNat=9
          · have hb:byL y=true:=by simp[byL,h2]
            repeat'(first|(simp(disch:=first|omega|(simp only[zL];omega))only[go_sem,seval,xi9 hy]))
            exact⟨i+1,⟨by omega,all_succ hy hall2 hb⟩,by omega,⟨rfl,rfl,trivial⟩⟩
          · have hb:byL y=false:=by simp[byL];omega
            rw[rQ hy hb]
            repeat'(first|(simp(disch:=first|omega|(simp only[zL];omega))only[go_sem,seval,xi9 hy]))
            exact⟨_,rfl,_,rfl,.refl _⟩
        · have hb:byL y=true:=by simp[byL];omega
          repeat'(first|(simp(disch:=first|omega|(simp only[zL];omega))only[go_sem,seval,xi9 hy]))
          exact⟨i+1,⟨by omega,all_succ hy hall2 hb⟩,by omega,⟨rfl,rfl,trivial⟩⟩
      · have e:i=v.length:=by omega
        subst e;rw[List.take_length]at hall2;rw[hall2]
        repeat'(first|(simp(disch:=first|omega|(simp only[zL];omega))only[go_sem,seval]))
        exact⟨_,rfl,_,rfl,.refl _⟩
  refine .seq (.vc (by decide) ?_)
  repeat'(first|(simp(disch:=first|omega|(simp only[zL];omega))only[go_sem,seval]))
  refine .seq (.vc (by decide) ?_)
  repeat'(first|(simp(disch:=first|omega|(simp only[zL];omega))only[go_sem,seval])|((with_reducible first|apply aj.pure|apply ar.pure);(with_reducible exact hs);(first|rfl|simp only[go_sem])))
  cases c5:g==[]with
  | true=>
    by_cases h2:ps.length≤8
    · by_cases h3:v.length≤4000
      · refine W.gX [(1,.ptr 0 0)] [.cells [.str g,.str n,.vsl 3 x (ps.map aD),.str v] false] (.vc (by decide) ?_) (loops _ (by rw[c5];rfl) h2 h3 ⟨rfl,trivial⟩)
        repeat'(first|(simp(disch:=first|omega|(simp only[zL];omega))only[go_sem,seval,c2,c3,c4,c5])|((with_reducible first|apply aj.pure|apply ar.pure);(with_reducible exact hn);(first|rfl|simp only[go_sem])))
        exact⟨rfl,trivial⟩
      · have e:bU ⟨g,n,x,ps,v⟩=false:=by rw[e0,decide_eq_false (show¬(v.length:Int)≤4000 by omega)];simp
        rw[e];refine .vc (by decide) ?_
        repeat'(first|(simp(disch:=first|omega|(simp only[zL];omega))only[go_sem,seval,c2,c3,c4,c5])|((with_reducible first|apply aj.pure|apply ar.pure);(with_reducible exact hn);(first|rfl|simp only[go_sem])))
        exact⟨_,rfl,_,rfl,.refl _⟩
    · have e:bU ⟨g,n,x,ps,v⟩=false:=by rw[e0,decide_eq_false (show¬(ps.length:Int)≤8 by omega)];simp
      rw[e];refine .vc (by decide) ?_
      repeat'(first|(simp(disch:=first|omega|(simp only[zL];omega))only[go_sem,seval,c2,c3,c4,c5])|((with_reducible first|apply aj.pure|apply ar.pure);(with_reducible exact hn);(first|rfl|simp only[go_sem])))
      exact⟨_,rfl,_,rfl,.refl _⟩
  | false =>
    cases c6:cQ g with
    | false=>
      have e:bU ⟨g,n,x,ps,v⟩=false:=by rw[e0,c5,c6];rfl
      rw[e];rw[c6]at hg;refine .vc (by decide) ?_
      repeat'(first|(simp(disch:=first|omega|(simp only[zL];omega))only[go_sem,seval,c2,c3,c4,c5])|((with_reducible first|apply aj.pure|apply ar.pure);(with_reducible assumption);(first|rfl|simp only[go_sem])))
      exact⟨_,rfl,_,rfl,.refl _⟩
    | true=>
      rw[c6]at hg;by_cases h2:ps.length≤8
      · by_cases h3:v.length≤4000
        · refine W.gX [(1,.ptr 0 0)] [.cells [.str g,.str n,.vsl 3 x (ps.map aD),.str v] false] (.vc (by decide) ?_) (loops _ (by rw[c6];simp) h2 h3 ⟨rfl,trivial⟩)
          repeat'(first|(simp(disch:=first|omega|(simp only[zL];omega))only[go_sem,seval,c2,c3,c4,c5])|((with_reducible first|apply aj.pure|apply ar.pure);(with_reducible assumption);(first|rfl|simp only[go_sem])))
          exact⟨rfl,trivial⟩
        · have e:bU ⟨g,n,x,ps,v⟩=false:=by rw[e0,decide_eq_false (show¬(v.length:Int)≤4000 by omega)];simp
          rw[e];refine .vc (by decide) ?_
          repeat'(first|(simp(disch:=first|omega|(simp only[zL];omega))only[go_sem,seval,c2,c3,c4,c5])|((with_reducible first|apply aj.pure|apply ar.pure);(with_reducible assumption);(first|rfl|simp only[go_sem])))
          exact⟨_,rfl,_,rfl,.refl _⟩
      · have e:bU ⟨g,n,x,ps,v⟩=false:=by rw[e0,decide_eq_false (show¬(ps.length:Int)≤8 by omega)];simp
        rw[e];refine .vc (by decide) ?_
        repeat'(first|(simp(disch:=first|omega|(simp only[zL];omega))only[go_sem,seval,c2,c3,c4,c5])|((with_reducible first|apply aj.pure|apply ar.pure);(with_reducible assumption);(first|rfl|simp only[go_sem])))
        exact⟨_,rfl,_,rfl,.refl _⟩
set_option maxRecDepth 8000 in
theorem IM (c:Cd):ad Tryz.prog 64 [bV c] (.ret (.bool (bZ c))):=by
  obtain⟨ver,x,ls⟩:=c;refine ad.of Tryz.func64 rfl (ab enters Tryz.func64 rfl) (by simp[Tryz.ntmps64]) ?_;show W Tryz.prog 32 0 none _ _ _;simp only[bV];have hver:version ver=(ver==[51,46,48]||ver==[52,46,48]):=rfl
  have loops: ∀T:List (Nat×AV),version ver=true→ls.length≤100→aC T [(1,.ptr 0 0)]→
      W Tryz.prog 32 0 none (match Tryz.f64.body with|some (.seq _ (.seq _ c))=>c|_=>.skip) (eI Tryz.prog Tryz.f64.results.toList (.ret (.bool (bZ ⟨ver,x,ls⟩)))) ⟨T,[.cells [.str ver,.vsl 5 x (ls.map aw)] false],[]⟩:=by
    intro T q1 q2 hT;have e0:bZ ⟨ver,x,ls⟩=ls.all bU:=by simp[bZ,q1,q2]
    rw[e0];refine W.bG _ hT ?_;show W Tryz.prog 32 0 none (.seq (.seq _ _) _) _ _;refine .vc (by decide) ?_
    repeat'(first|(simp(disch:=first|omega|(simp only[zL];omega))only[go_sem,seval]))
    refine W.bc (X:=Nat) (fun i=>[(3,.int .i64 (i:Int)),(1,.ptr 0 0)]) (fun _=>[.cells [.str ver,.vsl 5 x (ls.map aw)] false]) (fun i=>i≤ls.length∧(ls.take i).all bU=true) (fun i=>ls.length - i) 0 ⟨Nat.zero_le _,by simp⟩ ⟨rfl,rfl,trivial⟩ rfl ?_;rintro i ⟨hi,hall⟩;refine .vc (by decide) ?_;by_cases h:i<ls.length
    · obtain⟨u,hu,_⟩:=drop_at h
      have hia: ∀H,ak Tryz.prog 22 (.vsl 5 x (ls.map aw)) (.int .i64 (i:Int)) H=some (.vptr [.str u.g,.str u.n,.vsl 3 u.x (u.ps.map aD),.str u.v]):=fun H=>rA (v:=aw u) (by simp[hu]) rfl H;have hpu:=IL u;simp only[aw]at hpu;cases hb:bU u with
      | false=>
        rw[hb]at hpu;rw[rQ hu hb]
        repeat'(first|(simp(disch:=first|omega|(simp only[zL];omega))only[go_sem,seval,hia])|((with_reducible first|apply aj.pure|apply ar.pure);(with_reducible exact hpu);(first|rfl|simp only[go_sem,aB])))
        exact⟨_,rfl,_,rfl,.refl _⟩
      | true=>
        rw[hb]at hpu
        repeat'(first|(simp(disch:=first|omega|(simp only[zL];omega))only[go_sem,seval,hia])|((with_reducible first|apply aj.pure|apply ar.pure);(with_reducible exact hpu);(first|rfl|simp only[go_sem,aB])))
        exact⟨i+1,⟨by omega,all_succ hu hall hb⟩,by omega,⟨rfl,rfl,trivial⟩⟩
    · have e:i=ls.length:=by omega
      subst e;rw[List.take_length]at hall;rw[hall]
      repeat'(first|(simp(disch:=first|omega|(simp only[zL];omega))only[go_sem,seval]))
      exact⟨_,rfl,_,rfl,.refl _⟩
  refine .seq (.vc (by decide) ?_)
  repeat'(first|(simp(disch:=first|omega|(simp only[zL];omega))only[go_sem,seval]))
  have early:version ver=false→bZ ⟨ver,x,ls⟩=false:=fun h=>by simp[bZ,h]
  by_cases h2:ls.length≤100
  · cases c1:ver==[51,46,48]with
    | true=>
      have hv:version ver=true:=by rw[hver,c1];rfl
      refine W.gX [(1,.ptr 0 0)] [.cells [.str ver,.vsl 5 x (ls.map aw)] false] (.vc (by decide) ?_) (loops _ hv h2 ⟨rfl,trivial⟩)
      repeat'(first|(simp(disch:=first|omega|(simp only[zL];omega))only[go_sem,seval,c1]))
      exact⟨rfl,trivial⟩
    | false=>
      cases c2:ver==[52,46,48]with
      | true=>
        have hv:version ver=true:=by rw[hver,c1,c2];rfl
        refine W.gX [(1,.ptr 0 0)] [.cells [.str ver,.vsl 5 x (ls.map aw)] false] (.vc (by decide) ?_) (loops _ hv h2 ⟨rfl,trivial⟩)
        repeat'(first|(simp(disch:=first|omega|(simp only[zL];omega))only[go_sem,seval,c1,c2]))
        exact⟨rfl,trivial⟩
      | false=>
        rw[early (by rw[hver,c1,c2];rfl)];refine .vc (by decide) ?_
        repeat'(first|(simp(disch:=first|omega|(simp only[zL];omega))only[go_sem,seval,c1,c2]))
        exact⟨_,rfl,_,rfl,.refl _⟩
  · have e:bZ ⟨ver,x,ls⟩=false:=by simp[bZ,h2]
    rw[e];refine .vc (by decide) ?_;cases c1:ver==[51,46,48]with
    | true=>
      repeat'(first|(simp(disch:=first|omega|(simp only[zL];omega))only[go_sem,seval,c1]))
      exact⟨_,rfl,_,rfl,.refl _⟩
    | false=>
      cases c2:ver==[52,46,48]with
      | true=>
        repeat'(first|(simp(disch:=first|omega|(simp only[zL];omega))only[go_sem,seval,c1,c2]))
        exact⟨_,rfl,_,rfl,.refl _⟩
      | false=>
        repeat'(first|(simp(disch:=first|omega|(simp only[zL];omega))only[go_sem,seval,c1,c2]))
        exact⟨_,rfl,_,rfl,.refl _⟩
set_option maxRecDepth 8000 in
theorem Cz(c:Cd):ad Tryz.prog 27 [bV c] (.ret (.int .i64 (aQ c))):=by
 have hr:=IM c;have hhfs:=qj c;cases h:bZ c with
 |false=>
  have e:aQ c=2:=by simp[aQ,h]
  rw[h]at hr;rw[e];obtain⟨ver,x,ls⟩:=c;refine ad.of Tryz.func27 rfl (ab enters Tryz.func27 rfl) (by simp[Tryz.ntmps27]) ?_;show W Tryz.prog 10 0 none _ _ _;refine W.vc (by decide) ?_;simp only[bV]at hr hhfs ⊢
  repeat'(first|(simp(disch:=first|omega|(simp only[zL];omega))only[go_sem,seval])|((with_reducible first|apply aj.pure|apply ar.pure);(with_reducible exact hr);(first|rfl|simp only[go_sem,bq])))
  exact⟨_,rfl,_,rfl,.refl _⟩
 | true=>
  rw[h]at hr;have hb:=oB h;have ht:ad Tryz.prog 65 [bV c] (.ret (.str (laid c))):=by
   have h':=h;simp only[bZ,Bool.and_eq_true,decide_eq_true_eq,List.all_eq_true]at h';exact Ky c (fun l hl=>by have:=(jU (h'.2 l hl)).2;omega) hb (by omega)
  by_cases h4:(laid c).length>16000
  ·have e:aQ c=3:=by simp only[aQ,h,if_true,if_pos h4]
   rw[e];obtain⟨ver,x,ls⟩:=c;refine ad.of Tryz.func27 rfl (ab enters Tryz.func27 rfl) (by simp[Tryz.ntmps27]) ?_;show W Tryz.prog 10 0 none _ _ _;refine W.vc (by decide) ?_;simp only[bV]at hr hhfs ht ⊢
   repeat'(first|(simp(disch:=first|omega|(simp only[zL];omega))only[go_sem,seval])|((with_reducible first|apply aj.pure|apply ar.pure);(with_reducible assumption);(first|rfl|simp only[go_sem,bq])))
   exact⟨_,rfl,_,rfl,.refl _⟩
  ·have e:aQ c=0:=by simp only[aQ,h,if_true,if_neg h4]
   rw[e];obtain⟨ver,x,ls⟩:=c;refine ad.of Tryz.func27 rfl (ab enters Tryz.func27 rfl) (by simp[Tryz.ntmps27]) ?_;show W Tryz.prog 10 0 none _ _ _;refine W.vc (by decide) ?_;simp only[bV]at hr hhfs ht ⊢
   repeat'(first|(simp(disch:=first|omega|(simp only[zL];omega))only[go_sem,seval])|((with_reducible first|apply aj.pure|apply ar.pure);(with_reducible assumption);(first|rfl|simp only[go_sem,bq])))
   exact⟨_,rfl,_,rfl,.refl _⟩
def iz(ls:List Ln)(n:Bytes):Nat:=(ls.filter fun l=>small l.n==n).length
theorem jv{ls:List Ln}{i:Nat}{l:Ln}(h:ls[i]? =some l)(n:Bytes):iz (ls.take (i+1)) n=iz (ls.take i) n+(if small l.n==n then 1 else 0):=by
 rw[List.take_add_one,h,iz,List.filter_append,List.length_append];congr 1;simp only[Option.toList_some,List.filter_cons,List.filter_nil];split<;>simp
def xR(ls:List Ln)(f:Nat):List Bytes:=tV f (xsP ls f)
def fF(ls:List Ln)(k:Nat):Bool:=match bh[k]? with
 |some n=>decide (1<iz ls n)||(decide (k=0)&&decide (iz ls n=0))
 |none=>false
def ofR(c:Cd):(Nat→List Bytes)×Nat:=
 if aQ c=0 then(if(List.range 5).all (fun k=>!fF c.ls k)&&eu (xR c.ls)then(xR c.ls,0)else(iZ,270))else(iZ,2)
def zi(xs:Nat→List Bytes)(f:Nat):List AV:=(List.range f).map fun g=>.vsl 0 false ((xs g).map .str)
def im(xs:Nat→List Bytes)(f:Nat)(v:AV):List AV:=zi xs f++v::List.replicate (7 - f) .nilsl
theorem jd(xs:Nat→List Bytes)(f:Nat):(zi xs f).length=f:=by simp[zi]
theorem CA(xs:Nat→List Bytes){f:Nat}(hf:f<8)(v:AV):(im xs f v).length=8:=by simp[im,jd];omega
theorem Fp(xs:Nat→List Bytes)(f:Nat)(v:AV):(im xs f v)[f]? =some v:=by
 rw[im,List.getElem?_append_right (by rw[jd];exact Nat.le_refl _),jd,Nat.sub_self];rfl
theorem CB(xs:Nat→List Bytes)(f:Nat)(v w:AV):(im xs f v).set f w=im xs f w:=by
 rw[im,List.set_append_right _ _ (by rw[jd];exact Nat.le_refl _),jd,Nat.sub_self];rfl
theorem zj(xs:Nat→List Bytes){f:Nat}(hf:f<7):im xs f (.vsl 0 false ((xs f).map .str))=im xs (f+1) .nilsl:=by
 have e:7 - f=(7 - (f+1))+1:=by omega
 rw[im,im,e,List.replicate_succ,zi,zi,List.range_succ,List.map_append];simp
theorem CD(xs:Nat→List Bytes):im xs 7 (.vsl 0 false ((xs 7).map .str))=(bo xs).map aF:=by
 simp only[im,zi,bo,List.map_map];rfl
theorem IP{H:List OB}{b f:Nat}{xs:Nat→List Bytes}{v:AV}(h:H[b]? =some (.cells (im xs f v) false)):ao Tryz.prog 25 (.ptr b f) H=some v:=by
 simp[yo,ldC,h,Fp]
theorem CE{H:List OB}{b f:Nat}{xs:Nat→List Bytes}{v w:AV}(h:H[b]? =some (.cells (im xs f v) false))(hf:f<8)(hw:w.cells=[w])(hc:w.isC=true):aA Tryz.prog 25 (.ptr b f) w H=some (H.set b (.cells (im xs f w) false)):=by
 rw[Dc];simp only[stC,h,hw];rw[if_pos ⟨rfl,by rw[CA xs hf];simp;omega,by simp[hc]⟩];simp only[cz,CB]
theorem iy.app{H:List OB}{v:AV}{l:List Bytes}(h:iy H v l)(s:Bytes)(hl:l.length<1000000): ∃M:List OB,aE Tryz.prog 25 25 (deN v) (.vsl 0 true [.str s]) H=some (.sl H.length 0 (l.length+1) 0,M)∧M.length=H.length+1∧M[H.length]? =some (OB.cells ((l++[s]).map .str) true)∧
    ∀(j:Nat) (o:OB),H[j]? =some o→(∀cs,o≠OB.cells cs true)→M[j]? =some o:=by
  have hs:nT 0 AV.str H (deN v) l:=by
    rcases h with⟨e,rfl|rfl⟩|⟨d,rfl,hd⟩
    · exact .inl ⟨e,0,rfl⟩
    · exact .inl ⟨e,0,rfl⟩
    · exact .inr ⟨d,rfl,by rw[gU];exact hd⟩
  obtain⟨M,hap,hlen,hnew,hold⟩:=kJ (P:=Tryz.prog) (sT:=25) (wd:=0) (bytes:=16) Tryz.underlying25 gH AV.str (fun _=>rfl) (fun _=>rfl) (by decide) hs s true (by omega);rw[gU]at hnew;refine⟨M,hap,hlen,hnew,fun j o hj ho=> ?_⟩;rw[hold j (List.getElem?_eq_some_iff.1 hj).1 fun e=> ?_]
  · exact hj
  · rcases h with⟨_,rfl|rfl⟩|⟨d,rfl,hd⟩
    · cases e
    · cases e
    · cases e
      rw[hj]at hd;exact ho _ (Option.some.inj hd)
noncomputable def K7:Code:=match Tryz.f16.body with
 |some (.seq _ (.seq _ (.seq _ (.seq _ (.seq (.seq _ (.block _ (.loop c))) _)))))=>c
 |_=>.skip
noncomputable def K8:Code:=match Tryz.f16.body with
 |some (.seq _ (.seq _ (.seq _ (.seq _ (.seq _ (.seq (.seq _ (.block _ (.loop c))) _))))))=>c
 |_=>.skip
set_option maxRecDepth 8000 in
theorem K9 {ver:Bytes} {fx:Bool} {ls:List Ln} {Q:Ex→St→Prop} {a:St} (hn:ls.length≤1000) (hnm: ∀l∈ls,l.n.length≤1000000) (hT:aC a.T [(6,.int .i64 ((0:Nat):Int)),(5,.vsl 0 true (bh.map .str)),(1,.ptr 0 0),(2,.ptr 1 0),(4,.ptr 2 0)])
    (hH:a.H=[.cells [.str ver,.vsl 5 fx (ls.map aw)] false,.cells bX false,.cells bX false]) (hD:a.D=[])
    (h1:(List.range 5).all (fun k=> !fF ls k)=true→ ∀T,aC T [(1,.ptr 0 0),(2,.ptr 1 0),(4,.ptr 2 0)]→Q .normal ⟨T,[.cells [.str ver,.vsl 5 fx (ls.map aw)] false,.cells bX false,.cells bX false],[]⟩)
    (h2:(List.range 5).all (fun k=> !fF ls k)=false→ ∀T,Av.get T 2=.ptr 1 0→Av.get T 3=.int .i64 270→Q .ret ⟨T,[.cells [.str ver,.vsl 5 fx (ls.map aw)] false,.cells bX false,.cells bX false],[]⟩):
    W Tryz.prog 94 0 none (.loop K7) (aO 0 Q) a:=by
  obtain⟨L,hL⟩: ∃L,L=ls.map aw:=⟨_,rfl⟩
  have hLl:L.length=ls.length:=by rw[hL];simp
  rw[←hL]at hH h1 h2;have hln5: ∀X,aI Tryz.prog 25 (.vsl 0 true (bh.map .str)) X=some (.int .i64 5):=by intro X;simp[aI,Tryz.underlying25,bh]
  have hlnL: ∀X,aI Tryz.prog 22 (.vsl 5 fx L) X=some (.int .i64 ls.length):=by intro X;simp[aI,Tryz.underlying22,hLl]
  have hst8: ∀A B,aA Tryz.prog 27 (.ptr 1 0) (.agg bX) [A,.cells bX false,B]=some [A,.cells bX false,B]:=fun A B=>eS (vs:=bX) (us:=bX) rfl rfl rfl rfl rfl;have hld8: ∀A B C,ao Tryz.prog 22 (.ptr 0 1) [.cells [A,.vsl 5 fx L] false,B,C]=some (.vsl 5 fx L):=fun A B C=>by simp[Db,ldC]
  generalize hN8:bX=N8 at*;generalize hB0:bW Tryz.prog 27 []=B0;have hB0':B0=some (.agg N8):=by rw[←hB0,←hN8];exact bd8
  subst hB0';refine W.bc (X:=Nat) (fun k=>[(6,.int .i64 (k:Int)),(5,.vsl 0 true (bh.map .str)),(1,.ptr 0 0),(2,.ptr 1 0),(4,.ptr 2 0)]) (fun _=>[.cells [.str ver,.vsl 5 fx L] false,.cells N8 false,.cells N8 false]) (fun k=>k≤5∧(List.range k).all (fun k=> !fF ls k)=true) (fun k=>5 - k) 0 ⟨Nat.zero_le _,rfl⟩ hT hH ?_;rintro k ⟨hk,hall⟩;show W Tryz.prog 94 0 none (.seq (.seq (.region 6 _ _) _) (.seq (.block 1 (.seq (.region 8 _ _) _)) _)) _ _;by_cases h:k<5
  · obtain ⟨n,hn5,_⟩:=drop_at (show k<bh.length from h)
    have hbk:fF ls k=(decide (1<iz ls n)||(decide (k=0)&&decide (iz ls n=0))):=by unfold fF;rw[hn5]
    have hia: ∀X,ak Tryz.prog 25 (.vsl 0 true (bh.map .str)) (.int .i64 (k:Int)) X=some (.vptr [.str n]):=fun X=>eJ (v:=.str n) (by simp[hn5]) rfl X;rw[hD];refine .vc (by decide) ?_
    repeat'(first|(simp(disch:=first|omega|(simp only[zL];omega))only[go_sem,seval,hln5]))
    refine W.bc (X:=Nat) (fun i=>[(8,.int .i64 (i:Int)),(7,.int .i64 (iz (ls.take i) n:Nat)),(6,.int .i64 (k:Int)),(5,.vsl 0 true (bh.map .str)),(1,.ptr 0 0),(2,.ptr 1 0),(4,.ptr 2 0)]) (fun _=>[.cells [.str ver,.vsl 5 fx L] false,.cells N8 false,.cells N8 false]) (fun i=>i≤ls.length) (fun i=>ls.length - i) 0 (Nat.zero_le _) ⟨rfl,rfl,rfl,rfl,rfl,rfl,rfl,trivial⟩ rfl ?_;intro i hi;by_cases h3:i<ls.length
    · obtain⟨l,hl,_⟩:=drop_at h3
      have hil: ∀X,ak Tryz.prog 22 (.vsl 5 fx L) (.int .i64 (i:Int)) X=some (.vptr [.str l.g,.str l.n,.vsl 3 l.x (l.ps.map aD),.str l.v]):=fun X=>rA (v:=aw l) (by rw[hL];simp[hl]) rfl X;have hnr:=ij l n (hnm l (List.mem_of_getElem? hl));have hct:=jv hl n;have hcl:iz (ls.take i) n≤1000:=by have:=List.length_filter_le (fun l:Ln=>small l.n==n) (ls.take i);unfold iz;simp at this ⊢;omega
      rw[Gb]at hnr;have hrh:=aB l.ps;generalize l.ps.map aD=P at*;cases hq:(small l.n==n)with
      | true=>
        rw[hq]at hnr hct;rw[if_pos rfl]at hct;refine .vc (by decide) ?_
        repeat'(first|(simp(disch:=first|omega|(simp only[zL];omega))only[go_sem,seval,hlnL,hld8]))
        refine W.bw [] [false,false,false,false,false,false,false,false,false,false] [] mixed (by kernel_rfl) (by kernel_rfl) (by kernel_rfl) ?_
        repeat'(first|(simp(disch:=first|omega|(simp only[zL];omega))only[go_sem,seval,hlnL,hld8,hil,hia])|((with_reducible first|apply aj.pure|apply ar.pure);(with_reducible exact hnr);(first|rfl|simp only[go_sem,hrh])))
        exact⟨i+1,h3,by omega,rfl,by rw[hct];rfl,rfl,rfl,rfl,rfl,rfl,trivial⟩
      | false=>
        rw[hq]at hnr hct;rw[if_neg (by simp),Nat.add_zero]at hct;refine .vc (by decide) ?_
        repeat'(first|(simp(disch:=first|omega|(simp only[zL];omega))only[go_sem,seval,hlnL,hld8]))
        refine W.bw [] [false,false,false,false,false,false,false,false,false,false] [] mixed (by kernel_rfl) (by kernel_rfl) (by kernel_rfl) ?_
        repeat'(first|(simp(disch:=first|omega|(simp only[zL];omega))only[go_sem,seval,hlnL,hld8,hil,hia])|((with_reducible first|apply aj.pure|apply ar.pure);(with_reducible exact hnr);(first|rfl|simp only[go_sem,hrh])))
        exact⟨i+1,h3,by omega,rfl,by rw[hct];rfl,rfl,rfl,rfl,rfl,rfl,trivial⟩
    · have e:i=ls.length:=by omega
      subst e;rw[List.take_length];have hnext:(List.range (k+1)).all (fun k=> !fF ls k)= !fF ls k:=by rw[List.range_succ,List.all_append,hall];simp
      have hbad:fF ls k=true→(List.range 5).all (fun k=> !fF ls k)=false:=fun hb=>by
        rw[List.all_eq_false];exact⟨k,List.mem_range.2 h,by simp[hb]⟩
      generalize hcn:iz ls n=cn at*;rcases Nat.lt_or_ge 1 cn with hc|hc
      · have hb:fF ls k=true:=by rw[hbk];simp[hc]
        refine .vc (by decide) ?_
        repeat'(first|(simp(disch:=first|omega|(simp only[zL];omega))only[go_sem,seval,hlnL,hld8,hB0,hst8]))
        exact h2 (hbad hb) _ rfl rfl
      · by_cases hk0:k=0
        · subst hk0
          by_cases hz:cn=0
          · have hb:fF ls 0=true:=by rw[hbk];simp[hz]
            subst hz;refine .vc (by decide) ?_
            repeat'(first|(simp(disch:=first|omega|(simp only[zL];omega))only[go_sem,seval,hlnL,hld8,hB0,hst8]))
            exact h2 (hbad hb) _ rfl rfl
          · have hb:fF ls 0=false:=by rw[hbk];simp;omega
            refine .vc (by decide) ?_
            repeat'(first|(simp(disch:=first|omega|(simp only[zL];omega))only[go_sem,seval,hlnL,hld8,hB0,hst8]))
            exact⟨0+1,⟨by omega,by rw[hnext,hb];rfl⟩,by omega,rfl,rfl,rfl,rfl,rfl,trivial⟩
        · have hb:fF ls k=false:=by rw[hbk];simp;omega
          refine .vc (by decide) ?_
          repeat'(first|(simp(disch:=first|omega|(simp only[zL];omega))only[go_sem,seval,hlnL,hld8,hB0,hst8]))
          exact⟨k+1,⟨h,by rw[hnext,hb];rfl⟩,by omega,rfl,rfl,rfl,rfl,rfl,trivial⟩
  · have e:k=5:=by omega
    subst e;rw[hD];refine .vc (by decide) ?_
    repeat'(first|(simp(disch:=first|omega|(simp only[zL];omega))only[go_sem,seval,hln5]))
    refine h1 hall _ ?_;exact⟨rfl,rfl,rfl,trivial⟩
theorem zk{H:List OB}{v:AV}{l:List Bytes}(f:Nat)(h:iy H v l):∃u S,[.int .i64 (f:Int),v].mapM (fz (cg S 0 H) 20)=some [.int .i64 (f:Int),u]∧Le u (.vsl 0 false (l.map .str))∧∀j,j∈S→∃n,v=.sl j 0 n 0:=by
 obtain⟨u,S,h1,h2,h3⟩:=ud h;refine⟨u,S,?_,h2,h3⟩;have:fz (cg S 0 H) 20 v=some u:=by
  simp only[List.mapM_cons,List.mapM_nil]at h1;cases hz:fz (cg S 0 H) 20 v with
  |none=>rw[hz]at h1;simp at h1
  |some w=>rw[hz]at h1;simp at h1;rw[h1]
 simp only[List.mapM_cons,List.mapM_nil,this,dj (show AV.hf (.int .i64 (f:Int))=true from rfl)];rfl
def Fq(xs:Nat→List Bytes)(f:Nat):List AV:=if f<8 then im xs f .nilsl else(bo xs).map aF
theorem zl(xs:Nat→List Bytes){f:Nat}(hf:f<8):im xs f (.vsl 0 false ((xs f).map .str))=Fq xs (f+1):=by
 unfold Fq;by_cases h:f+1<8
 ·rw[if_pos h,zj xs (by omega)]
 ·have e:f=7:=by omega
  subst e;rw[if_neg (by omega),CD]
set_option maxRecDepth 8000 in
theorem La {ver:Bytes} {fx:Bool} {ls:List Ln} {Q:Ex→St→Prop} {a:St} (hn:ls.length≤1000) (hnm: ∀l∈ls,l.n.length≤1000000) (hvm: ∀l∈ls,l.v.length≤1000000) (hT:aC a.T [(9,.int .i64 ((0:Nat):Int)),(1,.ptr 0 0),(2,.ptr 1 0),(4,.ptr 2 0)])
    (hH:a.H=[.cells [.str ver,.vsl 5 fx (ls.map aw)] false,.cells bX false,.cells bX false]) (hD:a.D=[])
    (h1: ∀T H,aC T [(2,.ptr 1 0),(4,.ptr 2 0)]→H[1]? =some (.cells bX false)→H[2]? =some (.cells ((bo (xR ls)).map aF) false)→Q .normal ⟨T,H,[]⟩):
    W Tryz.prog 94 0 none (.loop K8) (aO 4 Q) a:=by
  obtain⟨L,hL⟩: ∃L,L=ls.map aw:=⟨_,rfl⟩
  have hLl:L.length=ls.length:=by rw[hL];simp
  rw[←hL]at hH;have hlnL: ∀X,aI Tryz.prog 22 (.vsl 5 fx L) X=some (.int .i64 ls.length):=by intro X;simp[aI,Tryz.underlying22,hLl]
  refine W.loop (X:=Nat) (fun f a=>aC a.T [(9,.int .i64 (f:Int)),(1,.ptr 0 0),(2,.ptr 1 0),(4,.ptr 2 0)]∧a.H[0]? =some (.cells [.str ver,.vsl 5 fx L] false)∧a.H[1]? =some (.cells bX false)∧a.H[2]? =some (.cells (Fq (xR ls) f) false)∧a.D=[]∧f≤8) (fun f=>8 - f) 0
    ⟨hT,by rw[hH];rfl,by rw[hH];rfl,by rw[hH];rfl,hD,Nat.zero_le _⟩ ?_
  clear hT hH hD a;rintro f ⟨T,H,D⟩ ⟨hT,g0,g1,g2,rfl,hf⟩;simp only at hT g0 g1 g2;refine W.bG _ hT ?_;show W Tryz.prog 94 0 none (.seq (.seq (.region 17 _ _) _) (.seq (.block 5 (.seq (.seq (.region 19 _ _) _) _)) _)) _ _;by_cases h:f<8
  · have hic:=iv 2 f h
    rw[Fq,if_pos h]at g2;refine .vc (by decide) ?_
    repeat'(first|(simp(disch:=first|omega|(simp only[zL];omega))only[go_sem,seval]))
    refine W.loop (X:=Nat) (fun i a=> ∃v,aC a.T [(10,.int .i64 (i:Int)),(9,.int .i64 (f:Int)),(1,.ptr 0 0),(2,.ptr 1 0),(4,.ptr 2 0)]∧a.H[0]? =some (.cells [.str ver,.vsl 5 fx L] false)∧a.H[1]? =some (.cells bX false)∧a.H[2]? =some (.cells (im (xR ls) f v) false)∧iy a.H v (xsP (ls.take i) f)∧a.D=[]∧i≤ls.length) (fun i=>ls.length - i) 0
      ⟨.nilsl,⟨rfl,rfl,rfl,rfl,rfl,trivial⟩,g0,g1,g2,.inl ⟨by rw[List.take_zero];rfl,.inl rfl⟩,rfl,Nat.zero_le _⟩ ?_
    clear g0 g1 g2 hT H T;rintro i ⟨T,H,D⟩ ⟨v,hT,g0,g1,g2,ho,rfl,hi⟩;simp only at hT g0 g1 g2 ho;refine W.bG _ hT ?_;have hld8:ao Tryz.prog 22 (.ptr 0 1) H=some (.vsl 5 fx L):=by simp[Db,ldC,g0]
    have hldr:=IP g2;have hxl:=sm (ls.take i) f;by_cases h3:i<ls.length
    · obtain⟨l,hl,_⟩:=drop_at h3
      have hil: ∀X,ak Tryz.prog 22 (.vsl 5 fx L) (.int .i64 (i:Int)) X=some (.vptr [.str l.g,.str l.n,.vsl 3 l.x (l.ps.map aD),.str l.v]):=fun X=>rA (v:=aw l) (by rw[hL];simp[hl]) rfl X;have hsy:=Kz l f h (hnm l (List.mem_of_getElem? hl)) (hvm l (List.mem_of_getElem? hl));have hxt:=oQ hl f;rw[Gb]at hsy;have hrh:=aB l.ps;generalize l.ps.map aD=P at*;generalize hs0:bI l f=s at*;by_cases hs:s=[]
      · have hsb:(s==([]:Bytes))=true:=by simp[hs]
        rw[show nz s=[]from if_pos hs,List.append_nil]at hxt;refine .vc (by decide) ?_
        repeat'(first|(simp(disch:=first|omega|(simp only[zL];omega))only[go_sem,seval,hlnL,hld8,hil,hsb])|((with_reducible first|apply aj.pure|apply ar.pure);(with_reducible exact hsy);(first|rfl|simp only[go_sem,hrh])))
        exact⟨i+1,⟨v,⟨rfl,rfl,rfl,rfl,rfl,trivial⟩,g0,g1,g2,by rw[hxt];exact ho,h3⟩,by omega⟩
      · have hsb:(s==([]:Bytes))=false:=by simp[hs]
        rw[show nz s=[s]from if_neg hs]at hxt;obtain⟨M,hap,hlen,hnew,hk⟩:=ho.app s (by simp at hxl;omega);have q2:=hk 2 _ g2 (fun cs e=>by cases e);have hst:=CE (w:=.sl H.length 0 ((xsP (ls.take i) f).length+1) 0) q2 h rfl rfl;have l2:=(List.getElem?_eq_some_iff.1 g2).1;have hde:deN (AV.sl H.length 0 ((xsP (ls.take i) f).length+1) 0)=.sl H.length 0 ((xsP (ls.take i) f).length+1) 0:=rfl;refine .vc (by decide) ?_
        repeat'(first|(simp(disch:=first|omega|(simp only[zL];omega))only[go_sem,seval,hlnL,hld8,hil,hsb,hic,hldr,ma,hap,hst])|((with_reducible first|apply aj.pure|apply ar.pure);(with_reducible exact hsy);(first|rfl|simp only[go_sem,hrh])))
        refine⟨i+1,⟨.sl H.length 0 ((xsP (ls.take i) f).length+1) 0,⟨rfl,rfl,rfl,rfl,rfl,trivial⟩,?_,?_,?_,?_,h3⟩,by omega⟩
        · rw[List.getElem?_set_ne (by omega)];exact hk 0 _ g0 (fun cs e=>by cases e)
        · rw[List.getElem?_set_ne (by omega)];exact hk 1 _ g1 (fun cs e=>by cases e)
        · rw[List.getElem?_set_self (by omega)]
        · exact .inr ⟨H.length,by rw[hxt];simp,by rw[List.getElem?_set_ne (by omega),hxt];exact hnew⟩
    · have e:i=ls.length:=by omega
      subst e;rw[List.take_length]at ho hxl;obtain⟨u,S,hgv,hle,hS⟩:=zk f ho;have hor:=ad.le (.cons _ _ _ _ (.refl _) (.cons _ _ _ _ hle .nil)) (BU f h false (xsP ls f) (by omega));have hk: ∀(j:Nat) (o:OB),H[j]? =some o→(∀cs,o≠OB.cells cs true)→(cY S 0 H)[j]? =some o:=fun j o hj hno=>by
        rw[lA]
        · exact hj
        · intro hm
          obtain⟨n,e⟩:=hS j hm;rcases ho with⟨_,e2|e2⟩|⟨d,e2,hd⟩
          · rw[e]at e2;cases e2
          · rw[e]at e2;cases e2
          · rw[e]at e2;cases e2;rw[hj]at hd;exact hno _ (Option.some.inj hd)
      have q2:=hk 2 _ g2 (fun cs e=>by cases e);have l2:=(List.getElem?_eq_some_iff.1 q2).1;have hst:=CE (w:=.vsl 0 false ((tV f (xsP ls f)).map .str)) q2 h rfl rfl;rw[show tV f (xsP ls f)=xR ls f from rfl,zl _ h]at hst;rw[show tV f (xsP ls f)=xR ls f from rfl]at hor;have q0:=hk 0 _ g0 (fun cs e=>by cases e);have q1:=hk 1 _ g1 (fun cs e=>by cases e);refine .vc (by decide) ?_
      repeat'(first|(simp(disch:=first|omega|(simp only[zL];omega))only[go_sem,seval,hlnL,hld8,hic,hldr,hst])|(guard_target=~ aj _ _ _ _ _ _ _;refine aj.yl S _ hor hgv ?_))
      refine⟨f+1,⟨⟨rfl,rfl,rfl,rfl,trivial⟩,?_,?_,?_,h⟩,by omega⟩
      · rw[List.getElem?_set_ne (by omega)];exact q0
      · rw[List.getElem?_set_ne (by omega)];exact q1
      · rw[List.getElem?_set_self l2]
  · have e:f=8:=by omega
    subst e;refine .vc (by decide) ?_
    repeat'(first|(simp(disch:=first|omega|(simp only[zL];omega))only[go_sem,seval]))
    refine h1 _ _ ?_ g1 g2;exact⟨rfl,rfl,trivial⟩
theorem lC{rs:List ResultVar}{T:List (Nat×AV)}{K:List OB}{xs:Nat→List Bytes}{vs:List AV}{e:Int}(hr:rs=[.cell 2 27,.tmp 3])(hb:K[1]? =some (.cells vs false))(hv:vs=bX∧xs=iZ∨vs=(bo xs).map aF)(h2:Av.get T 2=.ptr 1 0)(h3:Av.get T 3=.int .i64 e):
    eI Tryz.prog rs (.ret (.tup [.agg ((bo xs).map aF),.int .i64 e])) .ret ⟨T,K,[]⟩:=by
  rcases hv with⟨rfl,rfl⟩|rfl
  · exact nq hr (bL.none hb) h2 h3 (.inl rfl)
  · subst hr
    refine vo (a1:=⟨T,K,[]⟩) (v:=.tup [.agg ((bo xs).map aF),.int .i64 e]) rfl (lS 2 27 3 ?_ h3) (dj (by simp[AV.hf,AV.hfs,br])) (.refl _);simp only[h2];exact mh hb (ck xs)
set_option maxRecDepth 100000 in
theorem MP(c:Cd):ad Tryz.prog 16 [bV c] (.ret (.tup [.agg ((bo (ofR c).1).map aF),.int .i64 ((ofR c).2:Nat)])):=by
 have hck:=Cz c;have hc0:=fun h=>kg (c:=c) h;have ho:ofR c=if aQ c=0 then(if(List.range 5).all (fun k=>!fF c.ls k)&&eu (xR c.ls)then(xR c.ls,0)else(iZ,270))else(iZ,2):=rfl
 obtain⟨ver,fx,ls⟩:=c;have hLh:=bq ls;simp only[bV]at hck ho hc0 ⊢;generalize ofR ⟨ver,fx,ls⟩=r at*;refine ad.of Tryz.func16 rfl (ab enters Tryz.func16 rfl) (by simp[Tryz.ntmps16]) ?_;show W Tryz.prog 94 0 none (.seq (.region 0 _ _) (.seq (.seq (.region 1 _ _) _) (.seq (.region 3 _ _) (.seq (.region 4 _ _) (.seq (.seq (.region 5 _ _) (.block 0 (.loop K7))) (.seq (.seq (.region 16 _ _) (.block 4 (.loop K8))) _)))))) _ _;have hst8:∀A,aA Tryz.prog 27 (.ptr 1 0) (.agg bX) [A,.cells bX false]=some [A,.cells bX false]:=fun A=>eS (vs:=bX) (us:=bX) rfl rfl rfl rfl rfl
 have hst9:∀A B,aA Tryz.prog 27 (.ptr 2 0) (.agg bX) [A,B,.cells bX false]=some [A,B,.cells bX false]:=fun A B=>eS (vs:=bX) (us:=bX) rfl rfl rfl rfl rfl;have hz8:bS Tryz.prog 27=some (.agg bX):=KD;have hb5:au Tryz.prog 25 5 [(0,.str [102,110]),(1,.str [110]),(2,.str [111,114,103]),(3,.str [116,105,116,108,101]),(4,.str [110,111,116,101])]=some (.vsl 0 true (bh.map .str)):=by kernel_rfl
 refine .seq (.vc (by decide) ?_)
 repeat'(first|(simp(disch:=first|omega|(simp only[zL];omega))only[go_sem,seval,hz8]))
 by_cases h0:aQ ⟨ver,fx,ls⟩=0
 case neg=>
  rw[if_neg h0]at ho;subst ho;have hb:((aQ ⟨ver,fx,ls⟩:Nat):Int)≠0:=by omega
  refine .seq (.vc (by decide) ?_)
  repeat'(first|(simp(disch:=first|omega|(simp only[zL];omega))only[go_sem,seval,bd8,hst8,hb])|((with_reducible first|apply aj.pure|apply ar.pure);(with_reducible exact hck);(first|rfl|simp only[go_sem,hLh])))
  exact lC (vs:=bX) rfl rfl (.inl ⟨rfl,rfl⟩) rfl rfl
 rw[if_pos h0]at ho;rw[h0]at hck;obtain⟨hn1,hv1⟩:=hc0 h0;refine .seq (.vc (by decide) ?_)
 repeat'(first|(simp(disch:=first|omega|(simp only[zL];omega))only[go_sem,seval])|((with_reducible first|apply aj.pure|apply ar.pure);(with_reducible exact hck);(first|rfl|simp only[go_sem,hLh])))
 refine .seq (.vc (by decide) ?_)
 repeat'(first|(simp(disch:=first|omega|(simp only[zL];omega))only[go_sem,seval,hz8,bd8,hst9]))
 refine .seq (.vc (by decide) ?_)
 repeat'(first|(simp(disch:=first|omega|(simp only[zL];omega))only[go_sem,seval,hb5]))
 refine .seq (.vc (by decide) ?_)
 repeat'(first|(simp(disch:=first|omega|(simp only[zL];omega))only[go_sem,seval]))
 refine K9 (by omega) (fun l hl=>by have:=(hv1 l hl).2;omega) ⟨rfl,rfl,rfl,rfl,rfl,trivial⟩ rfl rfl (fun hall T hT=>?_) (fun hall T h2 h3=>?_)
 case refine_2=>
  rw[hall,Bool.false_and,if_neg (by simp)]at ho;subst ho;exact lC (vs:=bX) rfl rfl (.inl ⟨rfl,rfl⟩) h2 h3
 rw[hall,Bool.true_and]at ho;simp only[ai];refine W.bG _ hT ?_;refine .seq (.vc (by decide) ?_)
 repeat'(first|(simp(disch:=first|omega|(simp only[zL];omega))only[go_sem,seval]))
 refine La (by omega) (fun l hl=>by have:=(hv1 l hl).2;omega) (fun l hl=>by have:=(hv1 l hl).1;omega) ⟨rfl,rfl,rfl,rfl,trivial⟩ rfl rfl (fun T H hT g1 g2=>?_);simp only[ai];refine W.bG _ hT ?_;have hr16:=BM (bo (xR ls)) (ck _);rw[oS (x:=bR (bo (xR ls))) (y:=xR ls) fun f hf=>qx _ hf]at hr16;have q1:=mh g2 (ck (xR ls));have hch:=br (bo (xR ls));have hlen:((bo (xR ls)).map aF).length=8:=by rw[List.length_map,ck]
 have q2:=eS (vs:=bX) (us:=bX) g1 rfl rfl rfl rfl;have q3:=eS (vs:=bX) (us:=(bo (xR ls)).map aF) g1 rfl hlen (jc _) rfl;have l1:=(List.getElem?_eq_some_iff.1 g1).1;show W Tryz.prog 94 0 none (.seq (.seq (.region 26 _ _) _) (.seq (.region 28 _ _) _)) _ _;cases hk:eu (xR ls)with
 |true=>
  rw[hk]at hr16 ho;simp only[if_true]at ho;subst ho;refine .vc (by decide) ?_
  repeat'(first|(simp(disch:=first|omega|(simp only[zL];omega))only[go_sem,seval,q1,q3])|((with_reducible first|apply aj.pure|apply ar.pure);(with_reducible exact hr16);(first|rfl|simp only[go_sem,hch])))
  refine lC (vs:=(bo (xR ls)).map aF) rfl ?_ (.inr rfl) rfl rfl;rw[List.getElem?_set_self l1]
 |false=>
  rw[hk]at hr16 ho;simp only[Bool.false_eq_true,if_false]at ho;subst ho;refine .vc (by decide) ?_
  repeat'(first|(simp(disch:=first|omega|(simp only[zL];omega))only[go_sem,seval,q1,q2,bd8])|((with_reducible first|apply aj.pure|apply ar.pure);(with_reducible exact hr16);(first|rfl|simp only[go_sem,hch])))
  refine lC (vs:=bX) rfl ?_ (.inl ⟨rfl,rfl⟩) rfl rfl;rw[List.getElem?_set_self l1]
/-! ### Plain -/
/-! ### The walk -/
/-! ### The new lines -/
structure Lb (H:List OB) (ver:Bytes) (fx:Bool) (ls:List Ln) (x:List Val) (v:AV) (N:List (Ln×Bool)):Prop where
 box:H[0]? =some (.cells [.str ver,.vsl 5 fx (ls.map aw)] false)
 con:H[1]? =some (.cells (x.map aF) false)
 two:H[2]? =some (.cells [.str [],.nilsl] false)
 own:nT 5 eF H v N
theorem Lb.de{H:List OB}{ver:Bytes}{fx:Bool}{ls:List Ln}{x:List Val}{v:AV}{N:List (Ln×Bool)}(h:Lb H ver fx ls x v N):deN v=v:=by
 rcases h.own with⟨_,w,rfl⟩|⟨d,rfl,_⟩<;>rfl
theorem CF(ls:List Ln){f:Nat}(hf:f<8):xO ls f=xR ls f:=by
 unfold xO xsO xR tV;by_cases h:f<6
 ·rw[if_neg (by omega),if_pos h]
 ·rw[if_pos (by omega),if_neg h,BJ]
theorem ur(n:Bytes):∀(ls:List Ln) (acc:List Bytes),n∈ls.foldl oP acc↔n∈acc∨∃l∈ls,small l.n=n∧(aV n).isSome=true
 | [],acc=>by simp
 | l::ls,acc=>by
  rw[List.foldl_cons,ur n ls];have h1:n∈oP acc l↔n∈acc∨(small l.n=n∧(aV n).isSome=true):=by
   unfold oP;cases hk:aV (small l.n)with
   | none=>
    constructor
    ·exact .inl
    ·rintro(h|⟨h,h2⟩)
     ·exact h
     ·rw[←h,hk]at h2;cases h2
   | some k=>
    simp only;split
    ·rename_i hm
     constructor
     ·exact .inl
     ·rintro(h|⟨h,_⟩)
      ·exact h
      ·rw[←h];exact hm
    ·rw[List.mem_append,List.mem_singleton]
     constructor
     ·rintro(h|h)
      ·exact .inl h
      ·exact .inr ⟨h.symm,by rw[h,hk];rfl⟩
     ·rintro(h|⟨h,_⟩)
      ·exact .inl h
      ·exact .inr h.symm
  rw[h1];constructor
  ·rintro((h|h)|⟨m,hm,h⟩)
   ·exact .inl h
   ·exact .inr ⟨l,by simp,h⟩
   ·exact .inr ⟨m,by simp[hm],h⟩
  ·rintro(h|⟨m,hm,h⟩)
   ·exact .inl (.inl h)
   ·rcases List.mem_cons.1 hm with rfl|hm
    ·exact .inl (.inr h)
    ·exact .inr ⟨m,hm,h⟩
theorem oZ{n:Bytes}(hk:(aV n).isSome=true)(ls:List Ln):n∈cR ls↔0<iz ls n:=by
 unfold cR;rw[ur];unfold iz;rw[List.length_pos_iff_exists_mem];simp only[List.mem_filter,beq_iff_eq];constructor
 ·rintro(h|⟨l,hl,h,_⟩)
  ·cases h
  ·exact⟨l,hl,h⟩
 ·rintro⟨l,hl,h⟩
  exact .inr ⟨l,hl,h,hk⟩
theorem CG{n:Bytes}(h:n∈bh):∃k,aV n=some k∧k.many=false:=by
 simp only[bh,List.mem_cons,List.not_mem_nil,or_false]at h;rcases h with rfl|rfl|rfl|rfl|rfl<;>exact⟨_,rfl,rfl⟩
theorem CH{n:Bytes}{k:Kd}(h:aV n=some k)(hm:k.many=false):n∈bh:=by
 have hk:=kn n;rw[h]at hk;cases hk<;>first|(simp[bh];done)|cases hm
theorem CI(ls:List Ln):∀i,i≤ls.length→((List.range i).all (okP ls)=true↔∀n∈bh,iz (ls.take i) n≤1)
 |0,_=>by simp[iz]
 | i + 1,hi=>by
  obtain⟨l,hl⟩:∃l,ls[i]? =some l:=⟨_,List.getElem?_eq_getElem (by omega)⟩
  have ih:=CI ls i (by omega);have e:(List.range (i+1)).all (okP ls)=((List.range i).all (okP ls)&&okP ls i):=by rw[List.range_succ,List.all_append];simp
  rw[e,Bool.and_eq_true,ih];have hok:okP ls i= !(yW (ls.take i) l):=by unfold okP;rw[hl]
  constructor
  ·rintro⟨h1,h2⟩ n hn
   rw[jv hl n];have:=h1 n hn;by_cases hq:small l.n=n
   ·obtain⟨k,hk,hm⟩:=CG hn
    rw[hok,yW,hq,hk]at h2;simp only[hm,Bool.not_false,Bool.and_true,Bool.not_eq_true',Bool.eq_false_iff]at h2;have h0:¬0<iz (ls.take i) n:=fun h=>h2 (lp.2 ((oZ (by rw[hk];rfl) _).2 h));split<;>omega
   ·rw[if_neg (by simpa using hq)];omega
  ·intro h
   refine⟨fun n hn=>?_,?_⟩
   ·have:=h n hn;rw[jv hl n]at this;omega
   ·rw [hok,yW]
    cases hk:aV (small l.n)with
    |none=>rfl
    | some k=>
     simp only;cases hm:k.many with
     |true=>simp
     | false=>
      have hn:=CH hk hm;have:=h _ hn;rw[jv hl,if_pos (by simp)]at this;have h0:small l.n∉cR (ls.take i):=fun hs=>by
       have:=(oZ (by rw[hk];rfl) _).1 hs;omega
      have:inB (small l.n) (cR (ls.take i))=false:=by rw[Bool.eq_false_iff];exact fun e=>h0 (lp.1 e)
      rw[this];rfl
theorem Ft(ls:List Ln):(List.range 5).all (fun k=>!fF ls k)=true↔(∀n∈bh,iz ls n≤1)∧0<iz ls nFN:=by
 have e:(List.range 5).all (fun k=>!fF ls k)=((!fF ls 0)&&((!fF ls 1)&&((!fF ls 2)&&((!fF ls 3)&&((!fF ls 4)&&true))))):=rfl;rw[e];simp only[fF,bh,List.getElem?_cons_zero,List.getElem?_cons_succ,Bool.and_eq_true,Bool.not_eq_true',Bool.or_eq_false_iff,Bool.and_eq_false_iff,decide_eq_false_iff_not,List.mem_cons,List.not_mem_nil,or_false,forall_eq_or_imp,forall_eq,and_true];constructor
 ·rintro⟨⟨h0,h0'⟩,⟨h1,_⟩,⟨h2,_⟩,⟨h3,_⟩,h4,_⟩
  refine⟨⟨by omega,by omega,by omega,by omega,by omega⟩,?_⟩;rcases h0' with h|h
  ·exact absurd h (by simp)
  ·omega
 ·rintro⟨⟨h0,h1,h2,h3,h4⟩,h5⟩
  exact⟨⟨by omega,.inr (by omega)⟩,⟨by omega,.inl (by decide)⟩,⟨by omega,.inl (by decide)⟩,⟨by omega,.inl (by decide)⟩,by omega,.inl (by decide)⟩
theorem CJ(ls:List Ln):((List.range ls.length).all (okP ls)&&inB nFN (cR ls))=(List.range 5).all (fun k=>!fF ls k):=by
 rw[Bool.eq_iff_iff,Bool.and_eq_true,Ft,CI ls ls.length (Nat.le_refl _),List.take_length,lp,oZ rfl]
theorem of_same(c:Cd):(ofP c).2=(ofR c).2∧bo (ofP c).1=bo (ofR c).1:=by
 have hk:eu (xO c.ls)=eu (xR c.ls):=oS fun f hf=>CF c.ls hf;unfold ofP ofR;rw[←Bool.and_assoc,CJ,hk];split
 ·split
  ·exact⟨rfl,yS fun f hf=>CF c.ls hf⟩
  ·exact⟨rfl,rfl⟩
 ·exact⟨rfl,rfl⟩
def kept(x:List Val)(ls:List Ln):List Ln:=(eK x ls).map (·.1)
theorem CK{x:UInt8}{t:Bytes}(h1:x≠13)(h2:x≠10):lk (x::t)=0:=by
 unfold lk;split
 ·rename_i e;cases e;exact(h1 rfl).elim
 ·rename_i e;cases e;exact(h2 rfl).elim
 ·rfl
theorem IQ{y:UInt8}{t:Bytes}(h1:y≠10):lk (13::y::t)=0:=by
 unfold lk;split
 ·rename_i e;cases e;exact(h1 rfl).elim
 ·rename_i e;cases e
 ·rfl
theorem Fu{y:UInt8}{t:Bytes}:lk (13::10::y::t)=if y=9∨y=32 then 3 else 0:=by
 unfold lk;rfl
def nl:Bytes→Nat
 |10::_=>1
 |13::10::_=>2
 |_=>0
theorem IS{s:Bytes}(h:nl s=0):lk s=0:=by
 match s with
 | []=>rfl
 | x::t=>
  by_cases h1:x=10
  ·subst h1;simp[nl]at h
  ·by_cases h2:x=13
   ·subst h2
    match t with
    | []=>rfl
    |y::t=>
     by_cases h3:y=10
     ·subst h3;simp[nl]at h
     ·exact IQ h3
   ·exact CK h2 h1
theorem Lc{s:Bytes}(h:nl s≠0):lk s=match s[nl s]? with|some y=>if y=9∨y=32 then nl s+1 else 0|none=>0:=by
 match s with
 | []=>simp[nl]at h
 | x::t=>
  by_cases h1:x=10
  ·subst h1
   match t with
   | []=>rfl
   |y::t=>show lk (10::y::t)=if y=9∨y=32 then 2 else 0;exact FZ _ _
  ·by_cases h2:x=13
   ·subst h2
    match t with
    | []=>simp[nl]at h
    | y::t=>
     by_cases h3:y=10
     ·subst h3
      match t with
      | []=>rfl
      |w::t=>show lk (13::10::w::t)=if w=9∨w=32 then 3 else 0;exact Fu
     ·have:nl (13::y::t)=0:=by unfold nl;split<;>simp_all
      exact(h this).elim
   ·have:nl (x::t)=0:=by unfold nl;split<;>simp_all
    exact(h this).elim
theorem Ld(s:Bytes):nl s≤2:=by unfold nl;split<;>simp
set_option maxRecDepth 8000 in
theorem Lf (s:Bytes) (hs:s.length≤1000000):ad Tryz.prog 42 [.str s] (.ret (.str (unf s))):=by
 refine ad.of Tryz.func42 rfl (ab enters Tryz.func42 rfl) (by simp[Tryz.ntmps42]) ?_;show W Tryz.prog 71 0 none _ _ _;refine W.vc (by decide) ?_
 repeat'(first|(simp(disch:=first|omega|(simp only[zL];omega))only[go_sem,seval]))
 refine W.bc (X:=Nat×Nat×Bool×Bytes) (fun x=>[(4,.int .i64 (x.1:Int)),(3,byV x.2.1 x.2.2.1 x.2.2.2),(0,.str s)]) (fun x=>byM x.2.1 x.2.2.1 x.2.2.2)
  (fun x=>x.1≤s.length∧x.2.2.2++unf (s.drop x.1)=unf s∧(x.2.2.1=false→x.2.2.2=[])∧x.2.2.2.length≤x.1) (fun x=>s.length - x.1) (0,0,false,[]) ⟨Nat.zero_le _,rfl,fun _=>rfl,Nat.le_refl _⟩ (by simp[aC,Av.get,byV,bp]) rfl ?_
 rintro⟨i,k,z,L⟩ ⟨l1,l2,l3,l4⟩;simp only at l1 l2 l3 l4 ⊢;have hde:deN (byV k z L)=byV k z L:=eC _ _ _ _ _ _ _;by_cases h:i<s.length
 ·obtain⟨x,hx,hdrop⟩:=drop_at h
  have hbs:=EM x;obtain⟨k2,hb⟩:=jr k z L x true (by omega) l3;obtain⟨nn,hnn⟩:∃nn,nn=nl (s.drop i):=⟨_,rfl⟩
  have hn2:=Ld (s.drop i);rw[←hnn]at hn2;refine .seq (.vc (by decide) ?_)
  repeat'(first|(simp(disch:=first|omega|(simp only[zL];omega))only[go_sem,seval]))
  refine .seq (.block (.seq (.vc (by decide) ?_)))
  repeat'(first|(simp(disch:=first|omega|(simp only[zL];omega))only[go_sem,seval]))
  refine W.gX [(5,.int .i64 (if x.toNat=10 then 1 else 0)),(4,.int .i64 (i:Int)),(3,byV k z L),(0,.str s)] (byM k z L) (.vc (by decide) ?_) ?_
  ·by_cases h10:x.toNat=10
   ·rw[if_pos h10]
    repeat'(first|(simp(disch:=first|omega|(simp only[zL];omega))only[go_sem,seval,xi9 hx]))
    exact⟨rfl,rfl,rfl,rfl,trivial⟩
   ·rw[if_neg h10]
    repeat'(first|(simp(disch:=first|omega|(simp only[zL];omega))only[go_sem,seval,xi9 hx]))
    exact⟨rfl,rfl,rfl,rfl,trivial⟩
  refine W.gX [(5,.int .i64 (nn:Int)),(4,.int .i64 (i:Int)),(3,byV k z L),(0,.str s)] (byM k z L) (.vc (by decide) ?_) ?_
  ·by_cases h10:x.toNat=10
   ·have hx10:x=10:=UInt8.toNat_inj.1 h10
    have hn1:nn=1:=by rw[hnn,hdrop,hx10];rfl
    rw[if_pos h10,hn1]
    repeat'(first|(simp(disch:=first|omega|(simp only[zL];omega))only[go_sem,seval,xi9 hx]))
    exact⟨rfl,rfl,rfl,rfl,trivial⟩
   ·rw [if_neg h10]
    by_cases h13:x.toNat=13
    ·have hx13:x=13:=UInt8.toNat_inj.1 h13
     by_cases h1:i+1<s.length
     ·obtain⟨y,hy,hd1⟩:=drop_at h1
      by_cases hy10:y.toNat=10
      ·have hyy:y=10:=UInt8.toNat_inj.1 hy10
       have hn1:nn=2:=by rw[hnn,hdrop,hd1,hx13,hyy];rfl
       rw[hn1]
       repeat'(first|(simp(disch:=first|omega|(simp only[zL];omega))only[go_sem,seval,xi9 hx,xi9 hy]))
       exact⟨rfl,rfl,rfl,rfl,trivial⟩
      ·have hn1:nn=0:=by
        rw[hnn,hdrop,hd1,hx13];have:y≠10:=fun h=>hy10 (by rw[h];rfl);unfold nl;split<;>simp_all
       rw[hn1]
       repeat'(first|(simp(disch:=first|omega|(simp only[zL];omega))only[go_sem,seval,xi9 hx,xi9 hy]))
       exact⟨rfl,rfl,rfl,rfl,trivial⟩
     ·have hn1:nn=0:=by
       have:s.drop (i+1)=[]:=List.drop_of_length_le (by omega);rw[hnn,hdrop,this,hx13];rfl
      rw[hn1]
      repeat'(first|(simp(disch:=first|omega|(simp only[zL];omega))only[go_sem,seval,xi9 hx]))
      exact⟨rfl,rfl,rfl,rfl,trivial⟩
    ·have hn1:nn=0:=by
      have n1:x≠10:=fun h=>h10 (by rw[h];rfl);have n2:x≠13:=fun h=>h13 (by rw[h];rfl);rw[hnn,hdrop];unfold nl;split<;>simp_all
     rw[hn1]
     repeat'(first|(simp(disch:=first|omega|(simp only[zL];omega))only[go_sem,seval,xi9 hx]))
     exact⟨rfl,rfl,rfl,rfl,trivial⟩
  refine W.nO (lk (s.drop i)=0) [(4,.int .i64 (i:Int)),(3,byV k z L),(0,.str s)] (byM k z L) (.vc (by decide) ?_) ?_
  ·by_cases h0:nn=0
   ·have hl:=IS (hnn ▸ h0)
    rw[h0]
    repeat'(first|(simp(disch:=first|omega|(simp only[zL];omega))only[go_sem,seval]))
    exact⟨hl,rfl,rfl,rfl,trivial⟩
   ·have hl:=Lc (s:=s.drop i) (by rw[←hnn];exact h0)
    rw[←hnn,List.getElem?_drop]at hl;have hat:((i:Int)+(nn:Int))=((i+nn:Nat):Int):=rfl;have hgt:decide ((nn:Int)>0)=true:=decide_eq_true (by omega);by_cases h1:i+nn<s.length
    ·obtain⟨y,hy,_⟩:=drop_at h1
     rw[hy]at hl;simp only at hl;have skip:(y=9∨y=32)→L++unf (s.drop (i+nn+1))=unf s:=by
      intro hyy;rw[if_pos hyy]at hl;rw[←l2,oa (s.drop i) (by rw[hl];omega),hl,List.drop_drop];rfl
     by_cases hy32:y.toNat=32
     ·have e:y=32:=UInt8.toNat_inj.1 hy32
      have hfin:=skip (.inr e)
      repeat'(first|(simp(disch:=first|omega|(simp only[zL];omega))only[go_sem,seval,xi9 hy,qa]))
      refine .vc (by decide) ?_
      repeat'(first|(simp(disch:=first|omega|(simp only[zL];omega))only[go_sem,seval]))
      exact⟨(i+nn+1,k,z,L),⟨by simp only;omega,hfin,l3,by simp only;omega⟩,by simp only;omega,⟨rfl,rfl,rfl,trivial⟩,rfl⟩
     ·by_cases hy9:y.toNat=9
      ·have e:y=9:=UInt8.toNat_inj.1 hy9
       have hfin:=skip (.inl e)
       repeat'(first|(simp(disch:=first|omega|(simp only[zL];omega))only[go_sem,seval,xi9 hy,qa]))
       refine .vc (by decide) ?_
       repeat'(first|(simp(disch:=first|omega|(simp only[zL];omega))only[go_sem,seval]))
       exact⟨(i+nn+1,k,z,L),⟨by simp only;omega,hfin,l3,by simp only;omega⟩,by simp only;omega,⟨rfl,rfl,rfl,trivial⟩,rfl⟩
      ·have hl0:lk (s.drop i)=0:=by
        rw[hl,if_neg];rintro(h|h)
        ·exact hy9 (by rw[h];rfl)
        ·exact hy32 (by rw[h];rfl)
       repeat'(first|(simp(disch:=first|omega|(simp only[zL];omega))only[go_sem,seval,xi9 hy,qa]))
       exact⟨hl0,rfl,rfl,rfl,trivial⟩
    ·have hl0:lk (s.drop i)=0:=by rw[hl,List.getElem?_eq_none (by omega)]
     repeat'(first|(simp(disch:=first|omega|(simp only[zL];omega))only[go_sem,seval,qa]))
     exact⟨hl0,rfl,rfl,rfl,trivial⟩
  ·intro h0
   have put:(L++[x])++unf (s.drop (i+1))=unf s:=by
    rw[hdrop]at h0 l2;rw[←l2,lU x _ h0];simp
   refine .vc (by decide) ?_
   repeat'(first|(simp(disch:=first|omega|(simp only[zL];omega))only[go_sem,seval,xi9 hx,hbs,hde,hb]))
   refine .vc (by decide) ?_
   repeat'(first|(simp(disch:=first|omega|(simp only[zL];omega))only[go_sem,seval]))
   exact⟨(i+1,k2,true,L++[x]),⟨by simp only;omega,put,(fun h=>by cases h),by simp;omega⟩,by simp only;omega,⟨rfl,rfl,rfl,trivial⟩,rfl⟩
 ·have e:i=s.length:=by omega
  subst e;rw[List.drop_length,kR,List.append_nil]at l2;have hcv:=vJ k z L l3;refine .vc (by decide) ?_
  repeat'(first|(simp(disch:=first|omega|(simp only[zL];omega))only[go_sem,seval,hcv]))
  rw[←l2];exact⟨_,rfl,_,rfl,.refl _⟩
/-! ### Lines -/
theorem uu:∀(n:Nat) (s:Bytes),s.length<n→dT n s=dT (s.length+1) s:=by
 intro n;induction n using Nat.strongRecOn with
 | _ n ih=>
  intro s h;obtain⟨n,rfl⟩:∃m,n=m+1:=⟨n - 1,by omega⟩
  by_cases h0:s=[]
  ·subst h0;simp[dT]
  ·rw[dT,dT,if_neg h0,if_neg h0]
   have h1:=nh (c:=10) h0;rw[ih n (by omega) _ (by omega)];rcases Nat.lt_or_ge s.length n with h2|h2
   ·rw[ih s.length (by omega) _ h1]
   ·have:s.length=n:=by omega
    rw[this,ih n (by omega) _ (by omega)]
theorem o5:fg []=[]:=rfl
theorem mO{u:Bytes}(h:u≠ []):fg u=(if(ct u 10).2.2 then fQ (ct u 10).1 [13]else(ct u 10).1)::fg (ct u 10).2.1:=by
 have h1:=nh (c:=10) h;unfold fg;rw[dT,if_neg h,uu u.length _ h1]
theorem uv(t:Bytes):fQ t [13]=if t.getLast? =some 13 then t.take (t.length - 1)else t:=by
 unfold fQ ix;rcases List.eq_nil_or_concat t with h|⟨a,b,h⟩
 ·subst h;rfl
 ·subst h
  simp only[List.concat_eq_append,List.length_append,List.length_cons,List.length_nil,List.getLast?_append,List.getLast?_singleton];have e1:(a++[b]).drop (a.length+(0+1) - (0+1))=[b]:=by
   rw[Nat.add_sub_cancel,List.drop_append_of_le_length (Nat.le_refl _)];simp
  rw[e1];by_cases hb:b=13
  ·subst hb;simp
  ·simp[hb]
set_option maxRecDepth 8000 in
theorem Fw(s:Bytes)(hs:s.length≤1000000):ad Tryz.prog 43 [.str s] (.ret (.vsl 0 false ((cV s).map .str))):=by
 refine ad.of Tryz.func43 rfl (ab enters Tryz.func43 rfl) (by simp[Tryz.ntmps43]) ?_;show W Tryz.prog 52 0 none _ _ _;refine W.vc (by decide) ?_;have hu:=Lf s hs;have hul:=ib s;obtain⟨u,hu0⟩:∃u,u=unf s:=⟨_,rfl⟩
 have hlin:cV s=fg u:=by rw[hu0];rfl
 rw[hlin];rw[←hu0]at hu hul;have hb1:=ma
 repeat'(first|(simp(disch:=first|omega|(simp only[zL];omega))only[go_sem,seval])|((with_reducible first|apply aj.pure|apply ar.pure);(with_reducible exact hu);(first|rfl|simp only[go_sem])))
 have hout:∀out:List Bytes,out.length≤1000001→∀(z:Bool) (k:Nat),(z=false→out=[])→∀x:Bytes,aE Tryz.prog 25 25 (bp 0 0 0 AV.str k z out) (.vsl 0 true [.str x]) (mem [] AV.str k 0 z out)=some (bp 0 0 0 AV.str (if z then k+1 else k) true (out++[x]),mem [] AV.str (if z then k+1 else k) 0 true (out++[x])):=by
  intro out ho z k hz x;exact iM (wd:=0) (bytes:=16) Tryz.underlying25 gH AV.str (fun _=>rfl) (fun _=>rfl) (by decide) [] k z out (fun h=>.inl rfl) x true (by omega)
 refine W.bc (X:=Nat×Nat×Nat×Bool×List Bytes) (fun x=>[(5,.int .i64 (x.1:Int)),(4,.int .i64 (x.2.1:Int)),(3,bp 0 0 0 AV.str x.2.2.1 x.2.2.2.1 x.2.2.2.2),(0,.str u)]) (fun x=>mem [] AV.str x.2.2.1 0 x.2.2.2.1 x.2.2.2.2)
  (fun x=>x.1≤u.length∧x.2.1≤x.1∧10∉(u.drop x.2.1).take (x.1 - x.2.1)∧x.2.2.2.2++fg (u.drop x.2.1)=fg u∧(x.2.2.2.1=false→x.2.2.2.2=[])∧x.2.2.2.2.length≤x.2.1) (fun x=>u.length - x.1) (0,0,0,false,[]) ⟨Nat.zero_le _,Nat.le_refl _,by simp,rfl,fun _=>rfl,Nat.le_refl _⟩ ⟨rfl,rfl,rfl,rfl,trivial⟩ rfl ?_
 rintro⟨i,fr,k,z,out⟩ ⟨l1,l2,l3,l4,l5,l6⟩;simp only at l1 l2 l3 l4 l5 l6 ⊢;have hde:deN (bp 0 0 0 AV.str k z out)=bp 0 0 0 AV.str k z out:=eC _ _ _ _ _ _ _;refine .vc (by decide) ?_;by_cases h:i<u.length
 ·obtain⟨x,hx,hdrop⟩:=drop_at h
  by_cases h10:x.toNat=10
  ·have hx10:x=10:=UInt8.toNat_inj.1 h10
   have hcut:ct (u.drop fr) 10=((u.drop fr).take (i - fr),(u.drop fr).drop (i - fr+1),true):=rE _ _ _ (by rw[List.getElem?_drop,show fr+(i - fr)=i from by omega,hx,hx10]) l3;have hne:u.drop fr≠ []:=by intro e;have:=congrArg List.length e;simp at this;omega
   rw[mO hne,hcut,if_pos rfl]at l4;simp only[List.drop_drop]at l4;rw[show fr+(i - fr+1)=i+1 from by omega]at l4;have fin:∀line,line=fQ ((u.drop fr).take (i - fr)) [13]→∃y:Nat×Nat×Nat×Bool×List Bytes,(y.1≤u.length∧y.2.1≤y.1∧10∉(u.drop y.2.1).take (y.1 - y.2.1)∧y.2.2.2.2++fg (u.drop y.2.1)=fg u∧(y.2.2.2.1=false→y.2.2.2.2=[])∧y.2.2.2.2.length≤y.2.1)∧y=(i+1,i+1,(if z then k+1 else k),true,out++[line]):=by
    intro line hl;refine⟨_,⟨by simp only;omega,Nat.le_refl _,by simp,?_,(fun h=>by cases h),by simp only[List.length_append,List.length_cons,List.length_nil];omega⟩,rfl⟩;rw[hl,←l4];simp
   by_cases hc:fr<i∧u[i - 1]? =some 13
   ·obtain⟨hc1,hc2⟩:=hc
    have hx1:cf Tryz.prog 9 (.str u) (.int .i64 ((i:Int) - 1))=some (.int .u8 13):=by
     have:((i:Int) - 1)=((i - 1:Nat):Int):=by omega
     rw[this];exact xi9 hc2
    have hline:fQ ((u.drop fr).take (i - fr)) [13]=(u.drop fr).take (i - 1 - fr):=by
     rw[uv,if_pos]
     ·rw[List.length_take,List.take_take];congr 1;simp;omega
     ·rw[List.getLast?_eq_getElem?,List.length_take,List.getElem?_take,if_pos (by simp;omega),List.getElem?_drop]
      rw[show fr+(min (i - fr) (u.drop fr).length - 1)=i - 1 from by simp;omega];exact hc2
    have hsl:aM Tryz.prog 9 (.str u) (some (.int .i64 (fr:Int))) (some (.int .i64 ((i:Int) - 1))) none=some (.str ((u.drop fr).take (i - 1 - fr))):=by
     have e:((i:Int) - 1)=((i - 1:Nat):Int):=by omega
     rw[e,ss9,en _ _ _ _ (by omega) (by omega)];rfl
    have ha:=hout out (by omega) z k l5 ((u.drop fr).take (i - 1 - fr))
    repeat'(first|(simp(disch:=first|omega|(simp only[zL];omega))only[go_sem,seval,xi9 hx,hx1,hsl,hb1,ha,hde]))
    obtain⟨y,hy,e⟩:=fin _ hline.symm;subst e;exact⟨_,hy,by simp only;omega,⟨rfl,rfl,rfl,rfl,trivial⟩,rfl⟩
   ·have hline:fQ ((u.drop fr).take (i - fr)) [13]=(u.drop fr).take (i - fr):=by
     rw[uv,if_neg];rw[List.getLast?_eq_getElem?,List.length_take];rcases Nat.lt_or_ge fr i with h1|h1
     ·rw[List.getElem?_take,if_pos (by simp;omega),List.getElem?_drop]
      rw[show fr+(min (i - fr) (u.drop fr).length - 1)=i - 1 from by simp;omega];exact fun e=>hc ⟨h1,e⟩
     ·have:i - fr=0:=by omega
      rw[this];simp
    have hsl:aM Tryz.prog 9 (.str u) (some (.int .i64 (fr:Int))) (some (.int .i64 (i:Int))) none=some (.str ((u.drop fr).take (i - fr))):=by
     rw[ss9,en _ _ _ _ l2 (by omega)];rfl
    have ha:=hout out (by omega) z k l5 ((u.drop fr).take (i - fr));by_cases hfi:fr<i
    ·obtain⟨w,hw⟩:∃w,u[i - 1]? =some w:=⟨_,List.getElem?_eq_getElem (by omega)⟩
     have hw13:w.toNat≠13:=fun e=>hc ⟨hfi,hw.trans (congrArg some ((UInt8.toNat_inj (b:=13)).1 e))⟩;have hx1:cf Tryz.prog 9 (.str u) (.int .i64 ((i:Int) - 1))=some (.int .u8 w.toNat):=by
      have:((i:Int) - 1)=((i - 1:Nat):Int):=by omega
      rw[this];exact xi9 hw
     repeat'(first|(simp(disch:=first|omega|(simp only[zL];omega))only[go_sem,seval,xi9 hx,hx1,hsl,hb1,ha,hde]))
     obtain⟨y,hy,e⟩:=fin _ hline.symm;subst e;exact⟨_,hy,by simp only;omega,⟨rfl,rfl,rfl,rfl,trivial⟩,rfl⟩
    ·repeat'(first|(simp(disch:=first|omega|(simp only[zL];omega))only[go_sem,seval,xi9 hx,hsl,hb1,ha,hde]))
     obtain⟨y,hy,e⟩:=fin _ hline.symm;subst e;exact⟨_,hy,by simp only;omega,⟨rfl,rfl,rfl,rfl,trivial⟩,rfl⟩
  ·repeat'(first|(simp(disch:=first|omega|(simp only[zL];omega))only[go_sem,seval,xi9 hx]))
   refine⟨(i+1,fr,k,z,out),⟨by simp only;omega,by simp only;omega,?_,l4,l5,l6⟩,by simp only;omega,⟨rfl,rfl,rfl,rfl,trivial⟩,rfl⟩;simp only;rw[show i+1 - fr=(i - fr)+1 from by omega,List.take_add_one,List.getElem?_drop,show fr+(i - fr)=i from by omega,hx];simp only[List.mem_append,not_or];refine⟨l3,?_⟩;simp only[Option.toList_some,List.mem_cons,List.not_mem_nil,or_false];intro e;exact h10 (by rw[←e];rfl)
 ·have e:i=u.length:=by omega
  subst e;have l3':10∉u.drop fr:=by rwa[List.take_of_length_le (by simp)]at l3
  by_cases hf:fr<u.length
  ·have hne:u.drop fr≠ []:=by intro e;have:=congrArg List.length e;simp at this;omega
   rw[mO hne,rD _ _ l3',if_neg (by simp),o5]at l4;have hsl:aM Tryz.prog 9 (.str u) (some (.int .i64 (fr:Int))) none none=some (.str (u.drop fr)):=by
    rw[ss9,bn _ _ (by omega)];simp only[Option.map_some,cL]
   have ha:=hout out (by omega) z k l5 (u.drop fr)
   repeat'(first|(simp(disch:=first|omega|(simp only[zL];omega))only[go_sem,seval,hsl,hb1,ha,hde]))
   obtain⟨w,hz,hw⟩:=ia (B:=[]) (f:=AV.str) (w0:=0) (k:=if z then k+1 else k) (z:=true) (L:=out++[u.drop fr]) (n:=19) (M:=mem [] AV.str (if z then k+1 else k) 0 true (out++[u.drop fr])) (fun _=>dR) (az _) (di _);rw[←l4];exact kI 2 rfl rfl rfl hz (by rcases hw with rfl|rfl<;>first|exact .exact _ _ _|exact .refl _)
  ·have hnil:u.drop fr=[]:=List.drop_of_length_le (by omega)
   rw[hnil,o5,List.append_nil]at l4
   repeat'(first|(simp(disch:=first|omega|(simp only[zL];omega))only[go_sem,seval]))
   obtain⟨w,hz,hw⟩:=ia (B:=[]) (f:=AV.str) (w0:=0) (k:=k) (z:=z) (L:=out) (n:=19) (M:=mem [] AV.str k 0 z out) (fun hz=>by subst hz;exact dR) (az _) (di _);rw[←l4];exact kI 2 rfl rfl rfl hz (by rcases hw with rfl|rfl<;>first|exact .exact _ _ _|exact .refl _)
/-! ### A name in front -/
theorem xQ:∀(s:Bytes) (i:Nat),i≤lead s→∀j,j<i→∃x,s[j]? =some x∧nmI x.toNat=true
 | [],i,h,j,hj=>by simp[lead]at h;omega
 | x::t,i,h,j,hj=>by
  unfold lead at h;split at h
  ·rename_i hx
   cases j with
   |zero=>exact⟨x,rfl,hx⟩
   |succ j=>
    obtain⟨y,h1,h2⟩:=xQ t (i - 1) (by omega) j (by omega);exact⟨y,by simpa using h1,h2⟩
  ·omega
theorem xS:∀(s:Bytes) (x:UInt8),s[lead s]? =some x→nmI x.toNat=false
 | [],x,h=>by simp at h
 | y::t,x,h=>by
  unfold lead at h;split at h
  ·exact xS t x (by simpa using h)
  ·rename_i hy
   simp at h;subst h;simpa using hy
set_option maxRecDepth 8000 in
theorem wg(s:Bytes)(hs:s.length≤1000000):ad Tryz.prog 87 [.str s] (.ret (match nmR s with|some (n,t)=>.tup [.str n,.str t,.bool true]|none=>.tup [.str [],.str [],.bool false])):=by
 refine ad.of Tryz.func87 rfl (ab enters Tryz.func87 rfl) (by simp[Tryz.ntmps87]) ?_;show W Tryz.prog 36 0 none _ _ _;refine W.vc (by decide) ?_
 repeat'(first|(simp(disch:=first|omega|(simp only[zL];omega))only[go_sem,seval]))
 have hle:=xi s;refine W.bc (X:=Nat) (fun i=>[(5,.int .i64 (i:Int)),(0,.str s)]) (fun _=>[]) (fun i=>i≤lead s) (fun i=>lead s - i) 0 (Nat.zero_le _) ⟨rfl,rfl,trivial⟩ rfl ?_;intro i hi;refine .vc (by decide) ?_;by_cases h:i<lead s
 ·obtain⟨x,hx,hn⟩:=xQ s (lead s) (Nat.le_refl _) i h
  have hin:=xv (x.toNat:Int);rw[hn]at hin
  repeat'(first|(simp(disch:=first|omega|(simp only[zL];omega))only[go_sem,seval,xi9 hx])|((with_reducible first|apply aj.pure|apply ar.pure);(with_reducible exact hin);(first|rfl|simp only[go_sem])))
  exact⟨i+1,by omega,by omega,⟨rfl,rfl,trivial⟩⟩
 ·have e:i=lead s:=by omega
  subst e;by_cases hl:lead s<s.length
  ·obtain⟨x,hx,_⟩:=drop_at hl
   have hnx:=xS s x hx;have hin:=xv (x.toNat:Int);rw[hnx]at hin;have hn:=sy (s.take (lead s));cases hb:cQ (s.take (lead s))with
   |false=>
    rw[hb]at hn;have e:nmR s=none:=by unfold nmR;rw[if_neg (by simp[hb])]
    rw[e]
    repeat'(first|(simp(disch:=first|omega|(simp only[zL];omega))only[go_sem,seval,xi9 hx])|((with_reducible first|apply aj.pure|apply ar.pure);(with_reducible assumption);(first|rfl|simp only[go_sem])))
    exact⟨_,rfl,_,rfl,.refl _⟩
   | true=>
    rw[hb]at hn;have h0:0<lead s:=by
     rcases Nat.eq_zero_or_pos (lead s)with h0|h0
     ·rw[h0]at hb;simp[uo,eh,small]at hb
     ·exact h0
    have e:nmR s=some (small (s.take (lead s)),s.drop (lead s)):=by unfold nmR;rw[if_pos ⟨hl,h0,hb⟩]
    rw[e];have hsm:=oe (s.take (lead s))
    repeat'(first|(simp(disch:=first|omega|(simp only[zL];omega))only[go_sem,seval,xi9 hx])|((with_reducible first|apply aj.pure|apply ar.pure);(with_reducible assumption);(first|rfl|simp only[go_sem])))
    refine W.bw [] [false,false,false,false,false,false,false,false,false,false] [] mixed (by kernel_rfl) (by kernel_rfl) (by kernel_rfl) ?_
    repeat'(first|(simp(disch:=first|omega|(simp only[zL];omega))only[go_sem,seval])|((with_reducible first|apply aj.pure|apply ar.pure);(with_reducible exact hsm);(first|rfl|simp only[go_sem])))
    exact⟨_,rfl,_,rfl,.refl _⟩
  ·have e:nmR s=none:=by unfold nmR;rw[if_neg (by omega)]
   rw[e]
   repeat'(first|(simp(disch:=first|omega|(simp only[zL];omega))only[go_sem,seval]))
   exact⟨_,rfl,_,rfl,.refl _⟩
def gC (s:Bytes):Option ((Bytes×Bytes)×Bytes):=match nmR s with
  |none=>none
  | some (n,t)=>if t[0]? =some 61 then
      (if(t.drop 1)[0]? =some 34 then
        (if aX [34] ((t.drop 1).drop 1)<((t.drop 1).drop 1).length then some ((n,((t.drop 1).drop 1).take (aX [34] ((t.drop 1).drop 1))),((t.drop 1).drop 1).drop (aX [34] ((t.drop 1).drop 1)+1))else none)
      else some ((n,(t.drop 1).take (aX [58,59,44,34] (t.drop 1))),(t.drop 1).drop (aX [58,59,44,34] (t.drop 1))))
    else none
def psG:Nat→List (Bytes×Bytes)→Bytes→Bool→List (Bytes×Bytes)×Bytes×Bool×Bool
  |0,L,s,is=>(L,s,is,false)
  | f +1,L,s,is=>if is=true∧s[0]? =some 59 then(match gC (s.drop 1)with
      |none=>(L,s,is,true)
      |some (p,t)=>psG f (L++[p]) t (!t.isEmpty))else(L,s,is,false)
def uw(g n:Bytes)(q:List (Bytes×Bytes)×Bytes×Bool×Bool):Ln×Bool:=
 if q.2.2.2=true then(⟨g,n,false,q.1,[]⟩,false)else if q.2.2.1=true∧q.2.1[0]? =some 58 then(⟨g,n,false,q.1,q.2.1.drop 1⟩,true)else(⟨g,n,false,q.1,[]⟩,false)
def dG(g n u:Bytes):Ln×Bool:=uw g n (psG (u.length+1) [] u (!u.isEmpty))
def dL(s:Bytes):Ln×Bool:=match nmR s with
  |none=>(⟨[],[],false,[],[]⟩,false)
  |some (n,t)=>if t[0]? =some 46 then(match nmR (t.drop 1)with
      |none=>(⟨n,[],false,[],[]⟩,false)
      |some (m,u)=>dG n m u)else dG [] n t
/-! ### It is the program's -/
theorem fi(s:Bytes)(c:UInt8):cT s [c]=decide (s[0]? =some c):=by
 cases s with
 |nil=>simp[cT]
 |cons x t=>simp[cT];rfl
theorem o6{s:Bytes}{c:UInt8}(h:s[0]? =some c):bN s [c]=s.drop 1:=by
 unfold bN;rw[if_pos (by rw[fi];simp[h])];rfl
theorem CL{s:Bytes}{c:UInt8}(h:s[0]? ≠some c):bN s [c]=s:=by
 unfold bN;rw[if_neg (by rw[fi];simp[h])]
theorem qG:∀(s:Bytes) (c:UInt8),ct s c=if aX [c] s<s.length then(s.take (aX [c] s),s.drop (aX [c] s+1),true)else(s,[],false)
 | [],c=>rfl
 | x::t,c=>by
  have ih:=qG t c;by_cases h:x=c
  ·subst h;simp[ct,aX]
  ·have hc:ct (x::t) c=(x::(ct t c).1,(ct t c).2.1,(ct t c).2.2):=by simp[ct,h]
   have hl:aX [c] (x::t)=aX [c] t+1:=by simp[aX,h]
   rw[hc,hl,ih];by_cases h2:aX [c] t<t.length
   ·rw[if_pos h2,if_pos (by simp;omega)];simp
   ·rw[if_neg h2,if_neg (by simp;omega)]
theorem o7{s n t:Bytes}(h:nmR s=some (n,t)):t≠ []:=by
 unfold nmR at h;split at h
 ·rename_i hh;cases h;intro e;have:=congrArg List.length e;simp at this;omega
 ·cases h
theorem CM (s:Bytes):prR s=match nmR s with
  |none=>(none,s)
  | some (n,t)=>if t[0]? =some 61 then
      (if(t.drop 1)[0]? =some 34 then
        (if aX [34] ((t.drop 1).drop 1)<((t.drop 1).drop 1).length then(some (n,((t.drop 1).drop 1).take (aX [34] ((t.drop 1).drop 1))),((t.drop 1).drop 1).drop (aX [34] ((t.drop 1).drop 1)+1))else(none,(t.drop 1).drop 1))
      else if aX [58,59,44,34] (t.drop 1)<(t.drop 1).length then(some (n,(t.drop 1).take (aX [58,59,44,34] (t.drop 1))),(t.drop 1).drop (aX [58,59,44,34] (t.drop 1)))else(none,t.drop 1))
    else(none,t):=by
  unfold prR;cases h:nmR s with
  |none=>rfl
  | some q=>
    obtain⟨n,t⟩:=q;simp only;by_cases h1:t[0]? =some 61
    · simp only[fi t,h1,decide_true,o6 h1,if_true]
      by_cases h2:(t.drop 1)[0]? =some 34
      · simp only[fi (t.drop 1),h2,decide_true,o6 h2,if_true,qG]
        by_cases h3:aX [34] ((t.drop 1).drop 1)<((t.drop 1).drop 1).length
        · simp only[if_pos h3,if_true]
        · simp only[if_neg h3,Bool.false_eq_true,if_false]
      · simp only[fi (t.drop 1),h2,decide_false,CL h2,Bool.false_eq_true,if_false]
    · simp only[fi t,h1,decide_false,CL h1,Bool.false_eq_true,if_false]
theorem zm{s:Bytes}{p:Bytes×Bytes}{t:Bytes}(h:gC s=some (p,t)):prR s=(some p,t)∨(t=[]∧(prR s).1=none):=by
 rw[CM];unfold gC at h;cases hn:nmR s with
 |none=>rw[hn]at h;cases h
 | some q=>
  obtain⟨n,u⟩:=q;rw[hn]at h;simp only at h ⊢;by_cases h1:u[0]? =some 61
  ·rw[if_pos h1]at h ⊢
   by_cases h2:(u.drop 1)[0]? =some 34
   ·rw[if_pos h2]at h ⊢
    split at h
    ·rename_i h3
     rw[if_pos h3];cases h;exact .inl rfl
    ·cases h
   ·rw[if_neg h2]at h ⊢
    cases h;by_cases h3:aX [58,59,44,34] (u.drop 1)<(u.drop 1).length
    ·rw[if_pos h3];exact .inl rfl
    ·rw[if_neg h3]
     exact .inr ⟨List.drop_of_length_le (by omega),rfl⟩
  ·rw[if_neg h1]at h;cases h
theorem zn{s:Bytes}(h:gC s=none):(prR s).1=none:=by
 rw[CM];unfold gC at h;cases hn:nmR s with
 |none=>rfl
 | some q=>
  obtain⟨n,u⟩:=q;rw[hn]at h;simp only at h ⊢;by_cases h1:u[0]? =some 61
  ·rw[if_pos h1]at h ⊢
   by_cases h2:(u.drop 1)[0]? =some 34
   ·rw[if_pos h2]at h ⊢
    split at h
    ·cases h
    ·rename_i h3;rw[if_neg h3]
   ·rw[if_neg h2]at h;cases h
  ·rw[if_neg h1]
theorem uy{s:Bytes}{p:Bytes×Bytes}{t:Bytes}(h:gC s=some (p,t)):t.length≤s.length:=by
 unfold gC at h;cases hn:nmR s with
 |none=>rw[hn]at h;cases h
 | some q=>
  obtain⟨n,u⟩:=q;have hl:=gr hn;rw[hn]at h;simp only at h;split at h
  ·split at h
   ·split at h
    ·cases h;simp;omega
    ·cases h
   ·cases h;simp;omega
  ·cases h
def zo(q:List (Bytes×Bytes)×Bytes×Bool×Bool):Option (List (Bytes×Bytes)×Bytes):=if q.2.2.2=true then none else if q.2.2.1=true∧q.2.1[0]? =some 58 then some (q.1,q.2.1.drop 1)else none
theorem xU: ∀(f:Nat) (L:List (Bytes×Bytes)) (s:Bytes),s.length<f→s≠ []→
    zo (psG f L s true)=(match psF f s with|none=>none|some (ps,t)=>if cT t [58]then some (L++ps,bN t [58])else none)
  |0,L,s,h,_=>by omega
  | f + 1, L, s,h,hs=>by
    rw[psG,psF];by_cases h1:s[0]? =some 59
    · rw [if_pos ⟨rfl,h1⟩,fi,decide_eq_true h1,if_pos rfl,o6 h1]
      cases hp:gC (s.drop 1)with
      | none=>
        have g1:=zn hp;obtain⟨⟨o,l⟩,ho⟩: ∃x,x=prR (s.drop 1):=⟨_,rfl⟩
        rw[←ho]at g1 ⊢;simp only at g1;subst g1;rfl
      | some q=>
        obtain⟨p,t⟩:=q;have hl:=uy hp;have hsl:0<s.length:=List.length_pos_iff.2 hs;have e1:zo (psG f (L++[p]) [] (!([]:Bytes).isEmpty))=none:=by
          cases f with
          |zero=>rfl
          |succ f=>simp[psG,zo]
        simp only;rcases zm hp with hq|⟨ht,hq⟩
        · rw [hq]
          simp only;by_cases ht:t=[]
          · subst ht
            rw[e1];cases f with
            |zero=>omega
            |succ f=>simp[psF,cT]
          · have he:t.isEmpty=false:=by cases t<;>simp at ht ⊢
            rw[he];simp only[Bool.not_false];rw[xU f (L++[p]) t (by simp at hl;omega) ht];cases psF f t with
            |none=>rfl
            | some q=>
              obtain⟨ps,t'⟩:=q;simp
        · subst ht
          rw[e1];obtain⟨⟨o,l⟩,ho⟩: ∃x,x=prR (s.drop 1):=⟨_,rfl⟩
          rw[←ho]at hq ⊢;simp only at hq;subst hq;rfl
    · rw[if_neg (by simp[h1]),fi,decide_eq_false h1]
      simp only[Bool.false_eq_true,if_false,zo,true_and];by_cases h2:s[0]? =some 58
      · rw[fi,decide_eq_true h2,if_pos h2,o6 h2];simp
      · rw[fi,decide_eq_false h2,if_neg h2];simp
theorem CN(g n:Bytes)(q:List (Bytes×Bytes)×Bytes×Bool×Bool):(if(uw g n q).2=true then some (uw g n q).1 else none)=(zo q).map fun r=>⟨g,n,false,r.1,r.2⟩:=by
 unfold uw zo;split
 ·rfl
 ·split<;>rfl
theorem o8{g n u:Bytes}(hu:u≠ []):lY g n u=if(dG g n u).2=true then some (dG g n u).1 else none:=by
 have he:u.isEmpty=false:=by cases u<;>simp at hu ⊢
 unfold dG;rw[CN,he];simp only[Bool.not_false];rw[xU _ _ _ (Nat.lt_succ_self _) hu];unfold lY psR;cases psF (u.length+1) u with
 |none=>rfl
 |some q=>
  obtain⟨ps,t⟩:=q;simp only;split<;>simp
theorem uz(s:Bytes):lnR s=if(dL s).2=true then some (dL s).1 else none:=by
 unfold lnR dL;cases h:nmR s with
 |none=>rfl
 | some q=>
  obtain⟨n,t⟩:=q;simp only;by_cases h1:t[0]? =some 46
  ·rw[fi,decide_eq_true h1,if_pos rfl,if_pos h1,o6 h1]
   cases h2:nmR (t.drop 1)with
   |none=>rfl
   |some r=>
    obtain⟨m,u⟩:=r;exact o8 (o7 h2)
  ·rw[fi,decide_eq_false h1,if_neg h1]
   simp only[Bool.false_eq_true,if_false];exact o8 (o7 h)
theorem o9:∀(cs s:Bytes) (x:UInt8),s[aX cs s]? =some x→x∈cs
 |cs,[],x,h=>by simp at h
 |cs,y::t,x,h=>by
  unfold aX at h;split at h
  ·rename_i hy;simp at h;subst h;exact hy
  ·exact o9 cs t x (by simpa using h)
theorem pb:∀(cs s:Bytes) (j:Nat),j<aX cs s→∃x,s[j]? =some x∧x∉cs
 |cs,[],j,h=>by simp[aX]at h
 | cs,y::t,j,h=>by
  unfold aX at h;split at h
  ·omega
  ·rename_i hy
   cases j with
   |zero=>exact⟨y,rfl,hy⟩
   |succ j=>
    obtain⟨x,h1,h2⟩:=pb cs t j (by omega);exact⟨x,by simpa using h1,h2⟩
noncomputable def CO:Code:=match Tryz.f44.body with
 |some (.seq _ (.seq _ (.seq _ (.seq _ c))))=>c
 |_=>.skip
def pgV(k:Nat)(z:Bool)(L:List (Bytes×Bytes)):AV:=if z then .sl (2+k) 0 L.length 3 else .nilsl
def pgB(g n:Bytes)(v:AV):List OB:=[lrZ,.cells [.str g,.str n,v,.str []] false]
def qH(q:Ln×Bool):Out:=.ret (.tup [aw q.1,.bool q.2])
theorem Fx{k:Nat}{z:Bool}{L:List (Bytes×Bytes)}(h:z=false→L=[]):deN (pgV k z L)=bp 2 0 3 aD k z L:=by
 cases z
 ·rw[h rfl];rfl
 ·rfl
theorem xV{k m:Nat}{z:Bool}{L:List (Bytes×Bytes)}(h:z=true→2+k<m):(pgV k z L).hlt m=true:=by
 cases z
 ·rfl
 ·simp[pgV,AV.hlt,h rfl]
theorem Fy{g n:Bytes}{v:AV}{m:Nat}(hv:v.hlt m=true):(pgB g n v).all (OB.hlt m)=true:=by
 simp[pgB,lrZ,OB.hlt,AV.bf,AV.hlt,hv]
theorem sl1{s:Bytes}(h:s≠ []):aM Tryz.prog 9 (.str s) (some (.int .i64 1)) none none=some (.str (s.drop 1)):=by
 have:1≤s.length:=List.length_pos_iff.2 h;have:=bn (n:=s.length) .i64 1 this;rw[ss9];rw[show((1:Int))=((1:Nat):Int)from rfl,this];simp only[Option.map_some,cL]
theorem x0s{s:Bytes}{c:UInt8}(h:s[0]? =some c):cf Tryz.prog 9 (.str s) (.int .i64 0)=some (.int .u8 c.toNat):=xi9 (n:=0) h
theorem isn(t:Bytes):Le (.bool (decide ((t.length:Int)>0))) (.bool (!t.isEmpty)):=by
 cases t
 ·simp[bg]
 ·rw[decide_eq_true (by simp)];simp[bg]
theorem wh{s:Bytes}(h:s≠ []):∃c,s[0]? =some c:=by
 cases s with
 |nil=>exact(h rfl).elim
 |cons c t=>exact⟨c,rfl⟩
set_option maxRecDepth 8000 in
theorem Fz (g n u0:Bytes) (hu0:u0.length≤1000000) (T:List (Nat×AV)) (hT:aC T [(2,.ptr 0 0),(7,.ptr 1 0),(5,.str u0),(6,.bool (!u0.isEmpty))]):
    W Tryz.prog 148 0 none CO (eI Tryz.prog Tryz.f44.results.toList (qH (dG g n u0))) ⟨T,pgB g n .nilsl,[]⟩:=by
  refine W.bG _ hT ?_;have hbp:bW Tryz.prog 55 []=some (.agg [.str [],.str []]):=by kernel_rfl
  have hb1: ∀p q:Bytes,au Tryz.prog 44 1 [(0,.agg [.str p,.str q])]=some (.vsl 3 true [aD (p,q)]):=by
    intro p q;simp[au,Tryz.underlying44,vb,AV.cells,AV.told,List.range',aD]
  refine .seq (.block ?_)
  refine W.nP (X:=Bytes×Bool×List (Bytes×Bytes)×Nat×Nat×Bool×Nat) (fun x=>[(2,.ptr 0 0),(7,.ptr 1 0),(5,.str x.1),(6,.bool x.2.1)])
    (fun x=>mem (pgB g n (pgV x.2.2.2.1 x.2.2.2.2.2.1 x.2.2.1)) aD x.2.2.2.1 x.2.2.2.2.1 x.2.2.2.2.2.1 x.2.2.1)
    (fun x=>x.1.length+x.2.2.1.length≤1000000∧x.1.length<x.2.2.2.2.2.2∧(x.2.2.2.2.2.1=false→x.2.2.1=[])∧(x.2.1=true→x.1≠ [])∧uw g n (psG x.2.2.2.2.2.2 x.2.2.1 x.1 x.2.1)=dG g n u0)
    (fun x=>x.1.length) (u0,!u0.isEmpty,[],0,0,false,u0.length+1) (fun _=>Nat.zero_le _) rfl ⟨by simpa using hu0,Nat.lt_succ_self _,fun _=>rfl,(by intro h e;simp only at e;subst e;cases h),rfl⟩ ?_ ?_ ?_ ?_
  · simp only[bz,Av.get,Nat.reduceEqDiff,↓reduceIte,bg,dk,dm,and_self,true_and,and_true,List.length_map,List.length_nil]
  · simp[cm,AV.hlt,aJ,pgB]
  · simp[mem,pgB,pgV,lrZ,bm,OB.hlt,AV.bf,AV.hlt]
  rintro⟨s,is,L,k,j,z,fu⟩ ⟨l1,l2,l3,l4,l5⟩;simp only at l1 l2 l3 l4 l5 ⊢;obtain⟨v,hv⟩: ∃v,v=pgV k z L:=⟨_,rfl⟩
  obtain⟨M,hM⟩: ∃M,M=mem (pgB g n (pgV k z L)) aD k j z L:=⟨_,rfl⟩
  have hM0:M[0]? =some (.cells [.str [],.str [],.nilsl,.str []] false):=by rw[hM,dw (by simp[pgB])];rfl
  have hM1:M[1]? =some (.cells [.str g,.str n,v,.str []] false):=by rw[hM,dw (by simp[pgB]),hv];rfl
  have hMl:2≤M.length:=by rw[hM,aJ];simp[pgB];omega
  have hvC:v.isC=true:=by rw[hv];cases z<;>rfl
  have hv1:v.cells=[v]:=by rw[hv];cases z<;>rfl
  have hvd:deN v=bp 2 0 3 aD k z L:=by rw[hv];exact Fx l3
  have hvz: ∀H:List OB,(∀i,2≤i→i<M.length→H[i]? =M[i]?)→ ∃u,fz H 18 v=some u∧Le u (.vsl 3 false (L.map aD)):=by
    intro H hH;cases z with
    |false=>rw[hv,l3 rfl];exact⟨_,rfl,.nils _ _⟩
    | true=>
      rw[hv];refine hG (n:=2) (k:=17) (by decide) (fun x=>⟨[.str x.1,.str x.2],rfl,rfl⟩) (fun _=>rfl) (.inr ⟨2+k,rfl,?_⟩);have hlt:2+k<M.length:=by rw[hM,aJ];simp[pgB]
      rw[hH _ (by omega) hlt,hM];exact dR (B:=pgB g n (pgV k true L))
  rw[←hM]
  have gone: ∀(T:List (Nat×AV)) (E:List OB),dG g n u0=(⟨g,n,false,L,[]⟩,false)→Av.get T 2=.ptr 0 0→Av.get T 3=.bool false→
      eI Tryz.prog Tryz.f44.results.toList (qH (dG g n u0)) .ret ⟨T,M.set 0 (.cells [.str g,.str n,v,.str []] false)++E,[]⟩:=by
    intro T E ht h2 h3;rw[ht];refine ry (v:=.agg [.str g,.str n,v,.str []]) (u:=.bool false) 2 46 3 rfl rfl ?_ h3 ⟨gn (k:=17) (ts:=[.str g,.str n,.vsl 3 false (L.map aD),.str []]) (cM rfl (cM rfl ⟨hvz _ (fun i hi hl=>by rw[List.getElem?_append_left (by rw[List.length_set];exact hl),List.getElem?_set_ne (by omega)]),cM rfl trivial⟩)),cM rfl trivial⟩;simp only[h2];rw[sW];simp only[ldG];rw[List.getElem?_append_left (by rw[List.length_set];omega),List.getElem?_set_self (by omega)];rfl
  have gone0: ∀(T:List (Nat×AV)),dG g n u0=(⟨g,n,false,L,[]⟩,false)→Av.get T 2=.ptr 0 0→Av.get T 3=.bool false→
      eI Tryz.prog Tryz.f44.results.toList (qH (dG g n u0)) .ret ⟨T,M.set 0 (.cells [.str g,.str n,v,.str []] false),[]⟩:=by
    intro T ht h2 h3;have:=gone T [] ht h2 h3;rwa[List.append_nil]at this
  obtain⟨fu,rfl⟩: ∃f,fu=f+1:=⟨fu - 1,by omega⟩
  rw[psG]at l5;refine .vc (by decide) ?_;by_cases q:is=true∧s[0]? =some 59
  · obtain ⟨q1, q2⟩ :=q
    subst q1;have hsne:=l4 rfl;have hsl:0<s.length:=List.length_pos_iff.2 hsne;rw[if_pos ⟨rfl,q2⟩]at l5;have hx0:=x0s q2;have hsl1:=sl1 hsne;have hnm:=wg (s.drop 1) (by simp;omega);have h59:(UInt8.toNat 59)=59:=rfl;rw[h59]at hx0;cases hn:nmR (s.drop 1)with
    | none=>
      rw[hn]at hnm;have hp:gC (s.drop 1)=none:=by simp only[gC,hn]
      rw[hp]at l5;have ht:dG g n u0=(⟨g,n,false,L,[]⟩,false):=by rw[←l5];rfl
      repeat'(first|(simp(disch:=first|omega|(simp only[zL];omega))only[go_sem,seval,hx0,hsl1,hbp,hM0,hM1,hvC,hv1,zM])|((with_reducible first|apply aj.pure|apply ar.pure);(with_reducible exact hnm);(first|rfl|simp only[go_sem])))
      exact gone _ _ ht rfl rfl
    | some pq =>
      obtain⟨pn,t⟩:=pq;rw[hn]at hnm;have htne:=o7 hn;have htl:=gr hn;obtain⟨c,hc⟩:=wh htne;have hxc:=x0s hc;by_cases h61:c.toNat=61
      · have hc61 : t[0]? =some 61:=by rw[hc,UInt8.toNat_inj.1 (show c.toNat=(61:UInt8).toNat from h61)]
        have hslt:=sl1 htne;obtain⟨r,hr⟩: ∃r,r=t.drop 1:=⟨_,rfl⟩
        rw[←hr]at hslt;have hrl:r.length+1≤s.length:=by rw[hr];simp at htl ⊢;omega
        obtain⟨N,hN⟩: ∃N,N=M.length:=⟨_,rfl⟩
        have fin: ∀(T:List (Nat×AV)) (val rest:Bytes) (c0:List Code) (tl:Code),gC (s.drop 1)=some ((pn,val),rest)→True:=fun _ _ _ _ _ _=>trivial;obtain⟨hfin,hfin2⟩:(∀val rest,gC (s.drop 1)=some ((pn,val),rest)→rest.length<s.length)∧True:=⟨fun val rest h=>by have:=uy h;simp at this;omega,trivial⟩
        have app: ∀val:Bytes,∃M',aE Tryz.prog 44 44 (bp 2 0 3 aD k z L) (.vsl 3 true [aD (pn,val)]) (M++[.cells [.str pn,.str val] false])=some (.sl (2+(M.length+1 - 2)) 0 (L.length+1) 3,M')∧M'[1]? =some (.cells [.str g,.str n,v,.str []] false)∧
            (∀rest:Bytes,bm (mem (pgB g n (pgV (M.length+1 - 2) true (L++[(pn,val)]))) aD (M.length+1 - 2) 0 true (L++[(pn,val)])).length (M'.set 1 (.cells [.str g,.str n,.sl (2+(M.length+1 - 2)) 0 (L.length+1) 3,.str []] false)) (mem (pgB g n (pgV (M.length+1 - 2) true (L++[(pn,val)]))) aD (M.length+1 - 2) 0 true (L++[(pn,val)]))):=by
          intro val;obtain⟨M',ha1,ha2,ha3,ha4,ha5⟩:=jn (wd:=3) (bytes:=32) Tryz.underlying44 vb aD oC (fun _=>rfl) (by decide) (pgB g n (pgV k z L)) k j z L (w0:=0) (fun hz=>.inr (l3 hz)) [.cells [.str pn,.str val] false] (pn,val) true (by omega) hM;have hBl:(pgB g n (pgV k z L)).length=2:=rfl;have hel:[OB.cells [AV.str pn,.str val] false].length=1:=rfl;rw[hBl,hel]at ha1 ha4;refine⟨M',?_,by rw[ha5 1 (by simp[pgB]),hv];rfl,?_⟩
          · rw[ha1];simp[bp]
          · intro rest
            have h4:=ha4 (mem (pgB g n (pgV (M.length+1 - 2) true (L++[(pn,val)]))) aD (M.length+1 - 2) 0 true (L++[(pn,val)])).length (Fy (xV fun hz=> ?_)) (jV _)
            · have h5:=gK (b:=.cells [.str g,.str n,pgV (M.length+1 - 2) true (L++[(pn,val)]),.str []] false) (i:=1) ?_ h4
              · rw[mem_set (by simp[pgB])]at h5
                have e:(pgB g n (pgV k z L)).set 1 (.cells [.str g,.str n,pgV (M.length+1 - 2) true (L++[(pn,val)]),.str []] false)=pgB g n (pgV (M.length+1 - 2) true (L++[(pn,val)])):=rfl;rw[e]at h5;simpa[pgV]using h5
              · have:(pgV (M.length+1 - 2) true (L++[(pn,val)])).hlt (mem (pgB g n (pgV (M.length+1 - 2) true (L++[(pn,val)]))) aD (M.length+1 - 2) 0 true (L++[(pn,val)])).length=true:=xV fun _=>by rw[aJ];simp[pgB]
                simp only[OB.hlt,AV.bf,AV.hlt,this,Bool.and_true,Bool.true_and]
            · rw[aJ]
              rw[hM,aJ,hz];simp[pgB];omega
        have last: ∀(val rest:Bytes) (T:List (Nat×AV)) (M':List OB),gC (s.drop 1)=some ((pn,val),rest)→bz T [(2,.ptr 0 0),(7,.ptr 1 0),(5,.str rest),(6,.bool (!rest.isEmpty))]→
            bm (mem (pgB g n (pgV (M.length+1 - 2) true (L++[(pn,val)]))) aD (M.length+1 - 2) 0 true (L++[(pn,val)])).length M' (mem (pgB g n (pgV (M.length+1 - 2) true (L++[(pn,val)]))) aD (M.length+1 - 2) 0 true (L++[(pn,val)]))→
            ∃ y:Bytes×Bool×List (Bytes×Bytes)×Nat×Nat×Bool×Nat,(y.1.length+y.2.2.1.length≤1000000∧y.1.length<y.2.2.2.2.2.2∧(y.2.2.2.2.2.1=false→y.2.2.1=[])∧(y.2.1=true→y.1≠ [])∧uw g n (psG y.2.2.2.2.2.2 y.2.2.1 y.1 y.2.1)=dG g n u0)∧y.1.length<s.length∧bz T [(2,.ptr 0 0),(7,.ptr 1 0),(5,.str y.1),(6,.bool y.2.1)]∧
              cm (mem (pgB g n (pgV y.2.2.2.1 y.2.2.2.2.2.1 y.2.2.1)) aD y.2.2.2.1 y.2.2.2.2.1 y.2.2.2.2.2.1 y.2.2.1).length [(2,.ptr 0 0),(7,.ptr 1 0),(5,.str y.1),(6,.bool y.2.1)]=true∧
              bm (mem (pgB g n (pgV y.2.2.2.1 y.2.2.2.2.2.1 y.2.2.1)) aD y.2.2.2.1 y.2.2.2.2.1 y.2.2.2.2.2.1 y.2.2.1).length M' (mem (pgB g n (pgV y.2.2.2.1 y.2.2.2.2.2.1 y.2.2.1)) aD y.2.2.2.1 y.2.2.2.2.1 y.2.2.2.2.2.1 y.2.2.1):=by
          intro val rest T M' hp hT hM';have hlr:=hfin val rest hp;rw[hp]at l5;refine⟨(rest,!rest.isEmpty,L++[(pn,val)],M.length+1 - 2,0,true,fu),⟨by simp only[List.length_append,List.length_cons,List.length_nil];omega,by simp only;omega,(fun h=>by cases h),(by intro h e;simp only at e;subst e;cases h),l5⟩,hlr,hT,?_,hM'⟩;simp[cm,AV.hlt,aJ,pgB];omega
        by_cases h34:r[0]? =some 34
        · have hrne:r≠ []:=by intro e;rw[e]at h34;cases h34
          have hxr:=x0s h34;have e34:(UInt8.toNat 34)=34:=rfl;rw[e34]at hxr;have hrpos:0<r.length:=List.length_pos_iff.2 hrne
          repeat'(first|(simp(disch:=first|omega|(simp only[zL];omega))only[go_sem,seval,hx0,hsl1,hbp,hM0,hM1,hvC,hv1,hxc,hslt,hxr,zM])|((with_reducible first|apply aj.pure|apply ar.pure);(with_reducible exact hnm);(first|rfl|simp only[go_sem])))
          obtain⟨qd,hqd⟩: ∃qd,qd=aX [34] (r.drop 1):=⟨_,rfl⟩
          have hqle:=oq [34] (r.drop 1);rw[←hqd,List.length_drop]at hqle;refine W.bc (X:=Nat) (fun i=>[(9,.int .i64 (i:Int)),(8,.ptr M.length 0),(5,.str r),(2,.ptr 0 0),(7,.ptr 1 0),(6,.bool true)]) (fun _=>M++[.cells [.str pn,.str []] false]) (fun i=>1≤i∧i≤qd+1) (fun i=>qd+1 - i) 1 ⟨Nat.le_refl _,by omega⟩ ⟨rfl,rfl,rfl,rfl,rfl,rfl,trivial⟩ rfl ?_;rintro i ⟨hi1,hi2⟩;refine .vc (by decide) ?_;by_cases hiq:i<qd+1
          · obtain⟨y,hy,hyn⟩:=pb [34] (r.drop 1) (i - 1) (by omega)
            rw[List.getElem?_drop,show 1+(i - 1)=i from by omega]at hy;have hil:i<r.length:=(List.getElem?_eq_some_iff.1 hy).1;have hyn':y.toNat≠34:=by intro e;apply hyn;rw[UInt8.toNat_inj.1 (show y.toNat=(34:UInt8).toNat from e)];simp
            repeat'(first|(simp(disch:=first|omega|(simp only[zL];omega))only[go_sem,seval,xi9 hy]))
            exact⟨i+1,⟨by omega,by omega⟩,by omega,⟨rfl,rfl,rfl,rfl,rfl,rfl,trivial⟩⟩
          · have e:i=qd+1:=by omega
            subst e;by_cases hq:qd<(r.drop 1).length
            · have hql:qd+1<r.length:=by simp at hq;omega
              obtain⟨y,hy,_⟩:=drop_at hql;have hyat:y.toNat=34:=by
                have:=o9 [34] (r.drop 1) y (by rw[←hqd,List.getElem?_drop,Nat.add_comm];exact hy);simp at this;rw[this];rfl
              have hp:gC (s.drop 1)=some ((pn,(r.drop 1).take qd),r.drop (qd+2)):=by
                simp only[gC,hn,if_pos hc61,←hr,if_pos h34,←hqd,if_pos hq,List.drop_drop];rw[show 1+(qd+1)=qd+2 from by omega]
              have hsv:aM Tryz.prog 9 (.str r) (some (.int .i64 1)) (some (.int .i64 ((qd+1:Nat):Int))) none=some (.str ((r.drop 1).take qd)):=by
                rw[ss9,show((1:Int))=((1:Nat):Int)from rfl,en _ _ _ _ (by omega) (by omega)];rfl
              have hsr:aM Tryz.prog 9 (.str r) (some (.int .i64 ((qd+1+1:Nat):Int))) none none=some (.str (r.drop (qd+2))):=by
                rw[ss9,bn _ _ (by omega)];simp only[Option.map_some,cL]
              obtain⟨M',ha,hM'1,hsub⟩:=app ((r.drop 1).take qd);have hfl:decide (0<(r.drop (qd+2)).length)= !(r.drop (qd+2)).isEmpty:=by cases r.drop (qd+2)<;>simp
              have hfl2:decide (0<r.length - (qd+2))= !(r.drop (qd+2)).isEmpty:=by rw[←hfl,List.length_drop]
              have hfl3:decide (qd+2<r.length)= !(r.drop (qd+2)).isEmpty:=by rw[←hfl2];exact decide_eq_decide.2 (by omega)
              repeat'(first|(simp(disch:=first|omega|(simp only[zL];omega))only[go_sem,seval,xi9 hy,hsv,hsr,hb1,hM1,hvd,ha,hM'1,zM]))
              refine last _ _ _ _ hp ?_ (hsub (r.drop (qd+2)));simp only[bz,Av.get,Nat.reduceEqDiff,↓reduceIte,bg,dk,dm,and_self,true_and,and_true,List.length_map,List.length_nil];exact isn _
            · have hql: ¬qd+1<r.length:=by simp at hq;omega
              have hp:gC (s.drop 1)=none:=by
                simp only[gC,hn,if_pos hc61,←hr,if_pos h34,←hqd,if_neg hq]
              rw[hp]at l5;have ht:dG g n u0=(⟨g,n,false,L,[]⟩,false):=by rw[←l5];rfl
              have e1:qd+1=r.length:=by omega
              repeat'(first|(simp(disch:=first|omega|(simp only[zL];omega))only[go_sem,seval,hM0,hM1,hvC,hv1,zM]))
              exact gone _ _ ht rfl rfl
        · obtain ⟨qd,hqd⟩: ∃qd,qd=aX [58,59,44,34] r:=⟨_,rfl⟩
          have hqle:=oq [58,59,44,34] r;rw[←hqd]at hqle;have hp:gC (s.drop 1)=some ((pn,r.take qd),r.drop qd):=by
            simp only[gC,hn,if_pos hc61,←hr,if_neg h34,←hqd]
          have hsv:aM Tryz.prog 9 (.str r) none (some (.int .i64 ((qd:Nat):Int))) none=some (.str (r.take qd)):=by
            rw[ss9,gl _ _ (by omega)];rfl
          have hsr:aM Tryz.prog 9 (.str r) (some (.int .i64 ((qd:Nat):Int))) none none=some (.str (r.drop qd)):=by
            rw[ss9,bn _ _ (by omega)];simp only[Option.map_some,cL]
          obtain⟨M',ha,hM'1,hsub⟩:=app (r.take qd);have hfl3:decide (qd<r.length)= !(r.drop qd).isEmpty:=by
            by_cases e:qd<r.length
            · rw[decide_eq_true e]
              obtain⟨y,hy,hd⟩:=drop_at e;rw[hd];rfl
            · rw[decide_eq_false e,List.drop_of_length_le (by omega)];rfl
          have h13:r.length=0∨ ∃c',r[0]? =some c'∧c'.toNat≠34:=by
            cases r with
            |nil=>exact .inl rfl
            | cons x _=>
              refine .inr ⟨x,rfl,?_⟩;intro e;apply h34;rw[UInt8.toNat_inj.1 (show x.toNat=(34:UInt8).toNat from e)];rfl
          rcases h13 with h13|⟨c',hc',hcn⟩
          focus
            repeat'(first|(simp(disch:=first|omega|(simp only[zL];omega))only[go_sem,seval,hx0,hsl1,hbp,hM0,hM1,hvC,hv1,hxc,hslt,h13,zM])|((with_reducible first|apply aj.pure|apply ar.pure);(with_reducible exact hnm);(first|rfl|simp only[go_sem])))
          rotate_left
          focus
            have hxr:=x0s hc';have hrpos:0<r.length:=(List.getElem?_eq_some_iff.1 hc').1
            repeat'(first|(simp(disch:=first|omega|(simp only[zL];omega))only[go_sem,seval,hx0,hsl1,hbp,hM0,hM1,hvC,hv1,hxc,hslt,hxr,zM])|((with_reducible first|apply aj.pure|apply ar.pure);(with_reducible exact hnm);(first|rfl|simp only[go_sem])))
          all_goals
            refine W.bc (X:=Nat) (fun i=>[(9,.int .i64 (i:Int)),(8,.ptr M.length 0),(5,.str r),(2,.ptr 0 0),(7,.ptr 1 0),(6,.bool true)]) (fun _=>M++[.cells [.str pn,.str []] false]) (fun i=>i≤qd) (fun i=>qd - i) 0 (Nat.zero_le _) ⟨rfl,rfl,rfl,rfl,rfl,rfl,trivial⟩ rfl ?_;intro i hi;refine .vc (by decide) ?_;by_cases hiq:i<qd
            · obtain⟨y,hy,hyn⟩:=pb [58,59,44,34] r i (by omega)
              have hil:i<r.length:=by omega
              have n1:y.toNat≠58:=by intro e;apply hyn;rw[UInt8.toNat_inj.1 (show y.toNat=(58:UInt8).toNat from e)];simp
              have n2:y.toNat≠59:=by intro e;apply hyn;rw[UInt8.toNat_inj.1 (show y.toNat=(59:UInt8).toNat from e)];simp
              have n3:y.toNat≠44:=by intro e;apply hyn;rw[UInt8.toNat_inj.1 (show y.toNat=(44:UInt8).toNat from e)];simp
              have n4:y.toNat≠34:=by intro e;apply hyn;rw[UInt8.toNat_inj.1 (show y.toNat=(34:UInt8).toNat from e)];simp
              repeat'(first|(simp(disch:=first|omega|(simp only[zL];omega))only[go_sem,seval,xi9 hy]))
              exact⟨i+1,by omega,by omega,⟨rfl,rfl,rfl,rfl,rfl,rfl,trivial⟩⟩
            · have e:i=qd:=by omega
              subst e;by_cases hq:i<r.length
              · obtain⟨y,hy,_⟩:=drop_at hq
                try(exfalso;omega)
                all_goals
                  have hym:=o9 [58,59,44,34] r y (by rw[←hqd];exact hy);simp only[List.mem_cons,List.not_mem_nil,or_false]at hym;have hym:y.toNat=58∨y.toNat=59∨y.toNat=44∨y.toNat=34:=by
                    rcases hym with e|e|e|e<;>subst e<;>simp
                  rcases hym with e|e|e|e
                  all_goals
                    repeat'(first|(simp(disch:=first|omega|(simp only[zL];omega))only[go_sem,seval,xi9 hy,hsv,hsr,hb1,hM1,hvd,ha,hM'1,zM]))
                    refine last _ _ _ _ hp ?_ (hsub (r.drop i));simp only[bz,Av.get,Nat.reduceEqDiff,↓reduceIte,bg,dk,dm,and_self,true_and,and_true,List.length_map,List.length_nil];exact isn _
              · repeat'(first|(simp(disch:=first|omega|(simp only[zL];omega))only[go_sem,seval,hsv,hsr,hb1,hM1,hvd,ha,hM'1,zM]))
                refine last _ _ _ _ hp ?_ (hsub (r.drop i));simp only[bz,Av.get,Nat.reduceEqDiff,↓reduceIte,bg,dk,dm,and_self,true_and,and_true,List.length_map,List.length_nil];exact isn _
      · have hne:t[0]? ≠some 61:=by rw[hc];intro e;cases e;exact h61 rfl
        have hp:gC (s.drop 1)=none:=by simp only[gC,hn,if_neg hne]
        rw[hp]at l5;have ht:dG g n u0=(⟨g,n,false,L,[]⟩,false):=by rw[←l5];rfl
        repeat'(first|(simp(disch:=first|omega|(simp only[zL];omega))only[go_sem,seval,hx0,hsl1,hbp,hM0,hM1,hvC,hv1,hxc,zM])|((with_reducible first|apply aj.pure|apply ar.pure);(with_reducible exact hnm);(first|rfl|simp only[go_sem])))
        exact gone _ _ ht rfl rfl
  · rw [if_neg q]at l5
    cases is with
    | false=>
      have ht:dG g n u0=(⟨g,n,false,L,[]⟩,false):=by rw[←l5];rfl
      repeat'(first|(simp(disch:=first|omega|(simp only[zL];omega))only[go_sem,seval,hM0,hM1,hvC,hv1,zM]))
      refine .vc (by decide) ?_
      repeat'(first|(simp(disch:=first|omega|(simp only[zL];omega))only[go_sem,seval,hM0,hM1,hvC,hv1,zM]))
      exact gone0 _ ht rfl rfl
    | true=>
      have hsne:=l4 rfl;obtain⟨c,hc⟩:=wh hsne;have hxc:=x0s hc;have hc59:c.toNat≠59:=by
        intro e;apply q;refine⟨rfl,?_⟩;rw[hc,UInt8.toNat_inj.1 (show c.toNat=(59:UInt8).toNat from e)]
      by_cases h58:c.toNat=58
      · have hc58:s[0]? =some 58:=by rw[hc,UInt8.toNat_inj.1 (show c.toNat=(58:UInt8).toNat from h58)]
        have hsl1:=sl1 hsne;have ht:dG g n u0=(⟨g,n,false,L,s.drop 1⟩,true):=by rw[←l5];simp[uw,hc58]
        repeat'(first|(simp(disch:=first|omega|(simp only[zL];omega))only[go_sem,seval,hxc]))
        refine .vc (by decide) ?_
        repeat'(first|(simp(disch:=first|omega|(simp only[zL];omega))only[go_sem,seval,hM0,hM1,hvC,hv1,hxc,hsl1,zM]))
        rw[ht];refine ry (v:=.agg [.str g,.str n,v,.str (s.drop 1)]) (u:=.bool true) 2 46 3 rfl rfl ?_ rfl ⟨gn (k:=17) (ts:=[.str g,.str n,.vsl 3 false (L.map aD),.str (s.drop 1)]) (cM rfl (cM rfl ⟨hvz _ (fun i hi hl=> ?_),cM rfl trivial⟩)),cM rfl trivial⟩
        · simp only[Av.get,Nat.reduceEqDiff,↓reduceIte]
          rw[sW];simp only[ldG];rw[List.getElem?_set_self (by rw[List.length_set];omega)];rfl
        · rw[List.getElem?_set_ne (by omega),List.getElem?_set_ne (by omega)]
      · have hc58:s[0]? ≠some 58:=by rw[hc];intro e;cases e;exact h58 rfl
        have ht:dG g n u0=(⟨g,n,false,L,[]⟩,false):=by rw[←l5];simp[uw,hc58]
        repeat'(first|(simp(disch:=first|omega|(simp only[zL];omega))only[go_sem,seval,hxc]))
        refine .vc (by decide) ?_
        repeat'(first|(simp(disch:=first|omega|(simp only[zL];omega))only[go_sem,seval,hM0,hM1,hvC,hv1,hxc,zM]))
        exact gone0 _ ht rfl rfl
theorem pgT(g n u:Bytes)(b:Bool)(hu:u.length≤1000000)(hb:b= !u.isEmpty)(q:Ln×Bool)(hq:q=dG g n u):
    W Tryz.prog 148 0 none CO (eI Tryz.prog Tryz.f44.results.toList (qH q)) ⟨[(2,.ptr 0 0),(7,.ptr 1 0),(5,.str u),(6,.bool b)],pgB g n .nilsl,[]⟩:=by
  subst hb hq;exact Fz g n u hu _ ⟨rfl,rfl,rfl,rfl,trivial⟩
set_option maxRecDepth 8000 in
theorem FA(s:Bytes)(hs:s.length≤1000000):ad Tryz.prog 44 [.str s] (qH (dL s)):=by
 refine ad.of Tryz.func44 rfl (ab enters Tryz.func44 rfl) (by simp[Tryz.ntmps44]) ?_;show W Tryz.prog 148 0 none _ _ _;have hnm:=wg s hs;have hb0:∀n:Bytes,bW Tryz.prog 46 [(1,.str n)]=some (.agg [.str [],.str n,.nilsl,.str []]):=fun s=>by kernel_rfl
 refine .seq (.vc (by decide) ?_)
 repeat'(first|(simp(disch:=first|omega|(simp only[zL];omega))only[go_sem,seval]))
 refine .seq (.vc (by decide) ?_);cases hn:nmR s with
 |none=>
  rw[hn]at hnm;have hp:dL s=dG [] [] []:=by simp only[dL,hn];rfl
  repeat'(first|(simp(disch:=first|omega|(simp only[zL];omega))only[go_sem,seval])|((with_reducible first|apply aj.pure|apply ar.pure);(with_reducible exact hnm);(first|rfl|simp only[go_sem])))
  refine .seq (.vc (by decide) ?_)
  repeat'(first|(simp(disch:=first|omega|(simp only[zL];omega))only[go_sem,seval,hb0]))
  refine W.gX [(2,.ptr 0 0),(7,.ptr 1 0),(5,.str []),(6,.bool false)] (pgB [] [] .nilsl) (.vc (by decide) ?_) (pgT [] [] [] false (by simp) rfl _ hp)
  repeat'(first|(simp(disch:=first|omega|(simp only[zL];omega))only[go_sem,seval]))
  exact⟨⟨rfl,rfl,rfl,rfl,trivial⟩,rfl⟩
 | some q=>
  obtain⟨n,t⟩:=q;rw[hn]at hnm;have htne:=o7 hn;have htl:=gr hn;obtain⟨c,hc⟩:=wh htne;have hxc:=x0s hc;have hte:t.isEmpty=false:=by cases t<;>simp at htne ⊢
  have hsl1:=sl1 htne
  repeat'(first|(simp(disch:=first|omega|(simp only[zL];omega))only[go_sem,seval])|((with_reducible first|apply aj.pure|apply ar.pure);(with_reducible exact hnm);(first|rfl|simp only[go_sem])))
  refine .seq (.vc (by decide) ?_)
  repeat'(first|(simp(disch:=first|omega|(simp only[zL];omega))only[go_sem,seval,hb0]))
  by_cases h46:c.toNat=46
  ·have hc46:t[0]? =some 46:=by rw[hc,UInt8.toNat_inj.1 (show c.toNat=(46:UInt8).toNat from h46)]
   have hnm2:=wg (t.drop 1) (by simp;omega);cases hn2:nmR (t.drop 1)with
   |none=>
    rw[hn2]at hnm2;have hp:dL s=dG n [] []:=by simp only[dL,hn,if_pos hc46,hn2];rfl
    refine W.gX [(2,.ptr 0 0),(7,.ptr 1 0),(5,.str []),(6,.bool false)] (pgB n [] .nilsl) (.vc (by decide) ?_) (pgT n [] [] false (by simp) rfl _ hp)
    repeat'(first|(simp(disch:=first|omega|(simp only[zL];omega))only[go_sem,seval,hxc,hsl1])|((with_reducible first|apply aj.pure|apply ar.pure);(with_reducible exact hnm2);(first|rfl|simp only[go_sem])))
    exact⟨⟨rfl,rfl,rfl,rfl,trivial⟩,rfl⟩
   |some q2=>
    obtain⟨m,u⟩:=q2;rw[hn2]at hnm2;have hune:=o7 hn2;have hul:=gr hn2;have hue:u.isEmpty=false:=by cases u<;>simp at hune ⊢
    have hp:dL s=dG n m u:=by simp only[dL,hn,if_pos hc46,hn2]
    refine W.gX [(2,.ptr 0 0),(7,.ptr 1 0),(5,.str u),(6,.bool true)] (pgB n m .nilsl) (.vc (by decide) ?_) (pgT n m u true (by simp at hul;omega) (by rw[hue];rfl) _ hp)
    repeat'(first|(simp(disch:=first|omega|(simp only[zL];omega))only[go_sem,seval,hxc,hsl1])|((with_reducible first|apply aj.pure|apply ar.pure);(with_reducible exact hnm2);(first|rfl|simp only[go_sem])))
    exact⟨⟨rfl,rfl,rfl,rfl,trivial⟩,rfl⟩
  ·have hc46:t[0]? ≠some 46:=by rw[hc];intro e;cases e;exact h46 rfl
   have hp:dL s=dG [] n t:=by simp only[dL,hn,if_neg hc46]
   refine W.gX [(2,.ptr 0 0),(7,.ptr 1 0),(5,.str t),(6,.bool true)] (pgB [] n .nilsl) (.vc (by decide) ?_) (pgT [] n t true (by omega) (by rw[hte];rfl) _ hp)
   repeat'(first|(simp(disch:=first|omega|(simp only[zL];omega))only[go_sem,seval,hxc,hsl1]))
   exact⟨⟨rfl,rfl,rfl,rfl,trivial⟩,rfl⟩
section
variable{α:Type}
end
def Lg:Bytes:=[69,118,97]
def lK0:Ln:=⟨[],[102,110],true,[],[65,110,110,92,44,32,66]⟩
def lK1:Ln:=⟨[],[120,45,97],true,[],[49]⟩
def cK0:Cd:=⟨[51,46,48],false,[lK0,lK1]⟩
def xK0:List Val:=[(false,[[65,110,110,44,32,66]]),(false,[]),(false,[]),(false,[]),(false,[]),(false,[]),(false,[]),(false,[])]
def xK1:List Val:=[(true,[Lg]),(false,[]),(false,[]),(false,[]),(false,[]),(false,[]),(true,[[101]]),(false,[])]
def oL0:Ln:=⟨[],[102,110],false,[],[69,118,97]⟩
def oL1:Ln:=⟨[],[120,45,97],false,[],[49]⟩
def oL2:Ln:=⟨[],[101,109,97,105,108],true,[],[101]⟩
def oK0:Cd:=⟨[51,46,48],false,[oL0,oL1,oL2]⟩
theorem Gg:(ofR cK0).2=0:=by kernel_rfl
theorem Lh:bo (ofR cK0).1=xK0:=by kernel_rfl
theorem Ll:aQ cK0=0:=by kernel_rfl
theorem Lm:eu (bR xK1)=true:=by kernel_rfl
theorem Lp:sx cK0 xK1=oK0:=by kernel_rfl
theorem Lq:aQ oK0=0:=by kernel_rfl
theorem IT:qF cK0 xK1=(oK0,0):=by
 unfold qF;rw[if_pos ⟨Ll,Lm⟩,(of_same cK0).1,Gg,if_pos rfl,Lp,Lq,if_pos rfl]
def nK0:AV:=.agg [.str [],.str [102,110],.nilsl,.str [65,110,110,92,44,32,66]]
def nK1:AV:=.agg [.str [],.str [120,45,97],.nilsl,.str [49]]
theorem sbK:Sb (.agg [.str [51,46,48],.vsl 5 true [nK0,nK1]]) (bV cK0):=
 Sb.agg (.cons (Sb.refl _) (.cons (Sb.trans (Sb.le (.exact _ _ _)) (Sb.elems (.cons _ _ _ _ (.cons _ _ _ _ (.refl _) (.cons _ _ _ _ (.refl _) (.cons _ _ _ _ (.nils _ _) (.cons _ _ _ _ (.refl _) .nil)))) (.cons _ _ _ _ (.cons _ _ _ _ (.refl _) (.cons _ _ _ _ (.refl _) (.cons _ _ _ _ (.nils _ _) (.cons _ _ _ _ (.refl _) .nil)))) .nil)))) .nil))
set_option maxRecDepth 8000 in
theorem IU:ad Tryz.prog 11 [] (.ret (.bool true)):=by
 have hof:=vW cK0;rw[(of_same cK0).1,(of_same cK0).2,Gg,Lh]at hof;have hin:=K6 cK0 xK1 rfl;rw[IT]at hin;have hof:=ad.sub (.cons sbK .nil) hof;have hin:=ad.sub (.cons sbK (.cons (Sb.refl _) .nil)) hin;simp only[nK0,nK1,bV,oK0,aw,lK0,lK1,oL0,oL1,oL2,List.map_cons,List.map_nil,xK0,xK1,aF,Lg]at hof hin;have i0:∀H,ak Tryz.prog 22 (.vsl 5 false [aw oL0,aw oL1,aw oL2]) (.int .i64 0) H=some (.vptr (aw oL0).cells):=fun H=>rA (n:=0) rfl rfl H;have i1:∀H,ak Tryz.prog 22 (.vsl 5 false [aw oL0,aw oL1,aw oL2]) (.int .i64 1) H=some (.vptr (aw oL1).cells):=fun H=>rA (n:=1) rfl rfl H
 have i2:∀H,ak Tryz.prog 22 (.vsl 5 false [aw oL0,aw oL1,aw oL2]) (.int .i64 2) H=some (.vptr (aw oL2).cells):=fun H=>rA (n:=2) rfl rfl H;simp only[aw,oL0,oL1,oL2,List.map_nil,AV.cells]at i0 i1 i2;have a0:∀H,ak Tryz.prog 27 (.ptr 1 0) (.int .i64 0) H=some (.ptr 1 0):=iv 1 0 (by decide);have a6:∀H,ak Tryz.prog 27 (.ptr 1 0) (.int .i64 6) H=some (.ptr 1 6):=iv 1 6 (by decide);have hb1:bW Tryz.prog 46 [(1,.str [102,110]),(3,.str [65,110,110,92,44,32,66])]=some (.agg [.str [],.str [102,110],.nilsl,.str [65,110,110,92,44,32,66]]):=by kernel_rfl
 have hb2:bW Tryz.prog 46 [(1,.str [120,45,97]),(3,.str [49])]=some (.agg [.str [],.str [120,45,97],.nilsl,.str [49]]):=by kernel_rfl
 have hb3:au Tryz.prog 22 2 [(0,.agg [.str [],.str [102,110],.nilsl,.str [65,110,110,92,44,32,66]]),(1,.agg [.str [],.str [120,45,97],.nilsl,.str [49]])]=some (.vsl 5 true [.agg [.str [],.str [102,110],.nilsl,.str [65,110,110,92,44,32,66]],.agg [.str [],.str [120,45,97],.nilsl,.str [49]]]):=by kernel_rfl
 have hb5:au Tryz.prog 25 1 [(0,.str [69,118,97])]=some (.vsl 0 true [.str [69,118,97]]):=by kernel_rfl
 have hb6:au Tryz.prog 25 1 [(0,.str [101])]=some (.vsl 0 true [.str [101]]):=by kernel_rfl
 have hb4:bW Tryz.prog 24 [(0,.str [51,46,48]),(1,.vsl 5 true [nK0,nK1])]=some (.agg [.str [51,46,48],.vsl 5 true [nK0,nK1]]):=by kernel_rfl
 simp only[nK0,nK1]at hb4;refine ad.of Tryz.func11 rfl (ab enters Tryz.func11 rfl) (by simp[Tryz.ntmps11]) ?_;show W Tryz.prog 69 0 none _ _ _;refine W.vc (by decide) ?_
 repeat'(first|(simp(disch:=first|omega|(simp only[zL];omega))only[go_sem,seval,i0,i1,i2,a0,a6,beq_self_eq_true,hb1,hb2,hb3,hb4,hb5,hb6])|((with_reducible first|apply aj.pure|apply ar.pure);(with_reducible assumption);(first|rfl|simp only[go_sem])))
 exact⟨_,rfl,_,rfl,.refl _⟩
theorem pc(a:List Val):tQ a a=true:=by simp[tQ]
def stepG(c:Cd)(s:Bytes):Option Cd:=match lnR s with
 |none=>none
 |some l=>if l.n=bP then(if c.ver=[]∧l.g=[]∧l.ps=[]∧version l.v=true then some {c with ver:=l.v}else none)
  else some {c with ls:=c.ls++[l]}
def mV:Cd→List Bytes→Option Cd
 |c,[]=>some c
 |c,s::r=>(stepG c s).bind fun d=>mV d r
def okC(c:Cd):Option Cd:=if aQ c=0 then some c else none
theorem zp{c d:Cd}{s:Bytes}{x:Ln}(h:stepG c s=some d)(hx:x∈c.ls):x∈d.ls:=by
 unfold stepG at h;split at h
 ·cases h
 ·split at h
  ·split at h
   ·cases h;exact hx
   ·cases h
  ·cases h;simp[hx]
theorem uA:∀{l:List Bytes} {c d:Cd} {x:Ln},mV c l=some d→x∈c.ls→x∈d.ls
 | [],c,d,x,h,hx=>by cases h;exact hx
 |s::r,c,d,x,h,hx=>by
  rw[mV]at h;cases hs:stepG c s with
  |none=>rw[hs]at h;cases h
  |some e=>rw[hs]at h;exact uA (l:=r) h (zp hs hx)
theorem FB{c:Cd}{x:Ln}(hx:x∈c.ls)(hb:bU x=false):okC c=none:=by
 have:bZ c=false:=by
  cases h:bZ c with
  |false=>rfl
  |true=>
   simp only[bZ,Bool.and_eq_true]at h;have:=List.all_eq_true.1 h.2 x hx;rw[hb]at this;cases this
 simp[okC,aQ,this]
theorem ml:∀(l:List Bytes) (c:Cd),(mV c l).bind okC=(rO c l).bind okC
 | [],c=>rfl
 | s::r,c=>by
  rw[mV,rO];unfold stepG iu;cases h:lnR s with
  |none=>rfl
  | some l=>
   simp only;by_cases hv:l.n=bP
   ·rw[if_pos hv,if_pos hv]
    split
    ·exact ml r _
    ·rfl
   ·rw[if_neg hv,if_neg hv]
    cases hb:bU l with
    |true=>rw[if_pos rfl];exact ml r _
    |false=>
     rw[if_neg (by simp)];simp only[Option.bind_some,Option.bind_none];cases hr:mV {c with ls:=c.ls++[l]} r with
     |none=>rfl
     |some d=>exact FB (uA hr (by simp)) hb
theorem CP(s:Bytes):bF s=if fo s=true then(mV cd0 (pw s)).bind okC else none:=by
 rw[ml];rfl
theorem zq{u:Bytes}{y:UInt8}(h:u[u.length - 1]? =some y):ix u [10]=(y==10):=by
 have hl:=(List.getElem?_eq_some_iff.1 h).1;obtain⟨z,hz,hd⟩:=drop_at hl;rw[h]at hz;cases hz;have hn:u.drop (u.length - 1+1)=[]:=List.drop_of_length_le (by omega);rw[hn]at hd;have:decide (([10]:Bytes).length≤u.length)=true:=decide_eq_true (by simp;omega);have e:ix u [10]=(u.drop (u.length - 1)==[10]):=by
  have h1:decide (1≤u.length)=true:=this;simp only[ix,List.length_singleton,h1,Bool.true_and]
 rw[e,hd];by_cases e:y=10
 ·subst e;rfl
 ·simp[e]
def gB(ver:Bytes)(v:AV):List OB:=[.cells [.str [],.nilsl] false,.cells [.str ver,v] false]
theorem wi{ver:Bytes}{v:AV}{m:Nat}(hv:v.hlt m=true):(gB ver v).all (OB.hlt m)=true:=by
 simp[gB,OB.hlt,AV.bf,AV.hlt,hv]
set_option maxRecDepth 8000 in
theorem IV (s:Bytes) (hs:s.length≤1000000):ad Tryz.prog 23 [.str s] (mU (bQ s)):=by
 refine ad.of Tryz.func23 rfl (ab enters Tryz.func23 rfl) (by simp[Tryz.ntmps23]) ?_;show W Tryz.prog 108 0 none _ _ _;have hbz:bW Tryz.prog 24 []=some (.agg [.str [],.nilsl]):=by kernel_rfl
 refine .seq (.vc (by decide) ?_)
 repeat'(first|(simp(disch:=first|omega|(simp only[zL];omega))only[go_sem,seval]))
 have zero:∀(T:List (Nat×AV)) (H:List OB) (n:Nat),H[0]? =some (.cells [.str [],.nilsl] false)→Av.get T 2=.ptr 0 0→Av.get T 3=.int .i64 n→eI Tryz.prog Tryz.f23.results.toList (mU (cd0,n)) .ret ⟨T,H,[]⟩:=by
  intro T H n h0 h2 h3;refine ry (v:=.agg [.str [],.nilsl]) (u:=.int .i64 n) 2 24 3 rfl rfl ?_ h3 ⟨gn (k:=17) (ts:=[.str [],.vsl 5 false []]) (cM rfl ⟨⟨_,rfl,.nils _ _⟩,trivial⟩),cM rfl trivial⟩;simp only[h2];rw[va];simp only[ldG,h0];rfl
 by_cases q0:s.length>16000
 ·have e:bQ s=(cd0,3):=by simp only[bQ,if_pos q0]
  rw[e];refine .vc (by decide) ?_
  repeat'(first|(simp(disch:=first|omega|(simp only[zL];omega))only[go_sem,seval,hbz]))
  exact zero _ _ 3 rfl rfl rfl
 refine .seq (.vc (by decide) ?_)
 repeat'(first|(simp(disch:=first|omega|(simp only[zL];omega))only[go_sem,seval]))
 have hun:=Fw s hs;have huf:=Lf s hs;have hull:=ib s;obtain⟨all,hall⟩:∃all,all=cV s:=⟨_,rfl⟩
 have hal:all.length≤1000000:=by have:=oI s;rw[←hall]at this;omega
 have hae:∀x∈all,x.length≤1000000:=by intro x hx;rw[hall]at hx;have:=qo hx;omega
 have hlu:all.length≤(unf s).length:=by rw[hall];have:=jY ((unf s).length+1) (unf s);unfold cV fg;exact this
 rw[←hall]at hun;have bad:∀T,Av.get T 2=.ptr 0 0→Av.get T 3=.int .i64 250→fo s=false→eI Tryz.prog Tryz.f23.results.toList (mU (bQ s)) .ret ⟨T,[.cells [.str [],.nilsl] false],[]⟩:=by
  intro T h2 h3 hn;have hn:bF s=none:=by simp[bF,hn]
  have e:bQ s=(cd0,250):=by simp only[bQ,if_neg q0,hn]
  rw[e];exact zero _ _ 250 rfl h2 h3
 by_cases q1:3≤all.length
 case neg=>
  refine .vc (by decide) ?_
  repeat'(first|(simp(disch:=first|omega|(simp only[zL];omega))only[go_sem,seval,hbz])|((with_reducible first|apply aj.pure|apply ar.pure);(with_reducible assumption);(first|rfl|simp only[go_sem,az])))
  refine bad _ rfl rfl ?_;simp[fo,←hall,q1]
 obtain⟨y,hy⟩:∃y,(unf s)[(unf s).length - 1]? =some y:=⟨_,List.getElem?_eq_getElem (by omega)⟩
 have hxy:cf Tryz.prog 9 (.str (unf s)) (.int .i64 (((unf s).length:Int) - 1))=some (.int .u8 y.toNat):=by
  have:(((unf s).length:Int) - 1)=(((unf s).length - 1:Nat):Int):=by omega
  rw[this];exact xi9 hy
 have hsl:=zq hy;by_cases q2:y.toNat=10
 case neg=>
  have q2':(y==10)=false:=by
   simp only[beq_eq_false_iff_ne];intro e;apply q2;rw[e];rfl
  refine .vc (by decide) ?_
  repeat'(first|(simp(disch:=first|omega|(simp only[zL];omega))only[go_sem,seval,hbz,hxy])|((with_reducible first|apply aj.pure|apply ar.pure);(with_reducible assumption);(first|rfl|simp only[go_sem,az])))
  refine bad _ rfl rfl ?_;simp[fo,hsl,q2']
 have q2':(y==10)=true:=by
  simp only[beq_iff_eq];exact UInt8.toNat_inj.1 (show y.toNat=(10:UInt8).toNat from q2)
 rw[q2']at hsl;obtain⟨a0,ha0⟩:∃a0,all[0]? =some a0:=⟨_,List.getElem?_eq_getElem (by omega)⟩
 obtain⟨a1,ha1⟩:∃a1,all[all.length - 1]? =some a1:=⟨_,List.getElem?_eq_getElem (by omega)⟩
 have hd0:all.getD 0 []=a0:=by simp[List.getD,ha0]
 have hd1:all.getD (all.length - 1) []=a1:=by simp[List.getD,ha1]
 have hi0:∀H,ak Tryz.prog 25 (.vsl 0 false (all.map .str)) (.int .i64 0) H=some (.vptr [.str a0]):=fun H=>eJ (n:=0) (v:=.str a0) (by simp[ha0]) rfl H;have hi1:∀H,ak Tryz.prog 25 (.vsl 0 false (all.map .str)) (.int .i64 ((all.length:Int) - 1)) H=some (.vptr [.str a1]):=by
  intro H;have:((all.length:Int) - 1)=((all.length - 1:Nat):Int):=by omega
  rw[this];exact eJ (v:=.str a1) (by simp[ha1]) rfl H
 have hs0:=oe a0;have hs1:=oe a1;by_cases q3:small a0=fT
 case neg=>
  have e3:(small a0==fT)=false:=by simpa using q3
  have e3q:=e3;simp only[fT]at e3;refine .vc (by decide) ?_
  repeat'(first|(simp(disch:=first|omega|(simp only[zL];omega))only[go_sem,seval,hbz,hxy,hi0,e3,bne])|((with_reducible first|apply aj.pure|apply ar.pure);(with_reducible assumption);(first|rfl|simp only[go_sem,az])))
  refine bad _ rfl rfl ?_;simp only[fo,←hall,hd0,e3q,Bool.false_and,Bool.and_false]
 have e3:(small a0==fT)=true:=by simp[q3]
 have e3q:=e3;simp only[fT]at e3;by_cases q4:small a1=oH
 case neg=>
  have e4:(small a1==oH)=false:=by simpa using q4
  have e4q:=e4;simp only[oH]at e4;refine .vc (by decide) ?_
  repeat'(first|(simp(disch:=first|omega|(simp only[zL];omega))only[go_sem,seval,hbz,hxy,hi0,hi1,e3,e4,bne])|((with_reducible first|apply aj.pure|apply ar.pure);(with_reducible assumption);(first|rfl|simp only[go_sem,az])))
  refine bad _ rfl rfl ?_;simp only[fo,←hall,hd1,e4q,Bool.false_and,Bool.and_false]
 have e4:(small a1==oH)=true:=by simp[q4]
 have hhead:fo s=true:=by
  simp only[fo,←hall,hd0,hd1,e3q,e4,hsl,Bool.and_true,decide_eq_true_eq];exact q1
 simp only[oH]at e4;obtain⟨mid,hmid⟩:∃mid,mid=pw s:=⟨_,rfl⟩
 have hml:mid.length=all.length - 2:=by rw[hmid,pw,←hall];simp;omega
 have hma:∀i,i<mid.length→all[i+1]? =mid[i]?:=by
  intro i hi;rw[hmid,pw,←hall,List.getElem?_take_of_lt (by omega),List.getElem?_drop,Nat.add_comm]
 have hpm:bF s=(mV cd0 mid).bind okC:=by rw[CP,hhead,if_pos rfl,hmid]
 have hme:∀x∈mid,x.length≤1000000:=by
  intro x hx;refine hae x ?_;rw[hmid,pw,←hall]at hx;exact List.mem_of_mem_drop (List.mem_of_mem_take hx)
 have hO:bQ s=match bF s with|some c=>(c,0)|none=>(cd0,250):=by cases h:bF s<;>simp only[bQ,if_neg q0,h]
 refine .vc (by decide) ?_
 repeat'(first|(simp(disch:=first|omega|(simp only[zL];omega))only[go_sem,seval,hbz,hxy,hi0,hi1,e3,e4,bne])|((with_reducible first|apply aj.pure|apply ar.pure);(with_reducible assumption);(first|rfl|simp only[go_sem,az])))
 refine W.nP (X:=Nat×Cd×Nat×Nat×Bool) (fun x=>[(8,.int .i64 ((x.1+1:Nat):Int)),(6,.int .i64 (all.length:Int)),(5,.vsl 0 false (all.map .str)),(2,.ptr 0 0),(7,.ptr 1 0),(3,.int .i64 0)])
  (fun x=>mem (gB x.2.1.ver (pV x.2.2.1 x.2.2.2.2 x.2.1.ls)) aw x.2.2.1 x.2.2.2.1 x.2.2.2.2 x.2.1.ls)
  (fun x=>x.1≤mid.length∧mV x.2.1 (mid.drop x.1)=mV cd0 mid∧(x.2.2.2.2=false→x.2.1.ls=[])∧x.2.1.ls.length≤x.1∧x.2.1.x=false)
  (fun x=>mid.length - x.1) (0,cd0,0,0,false) (fun _=>Nat.zero_le _) rfl ⟨Nat.zero_le _,rfl,fun _=>rfl,Nat.le_refl _,rfl⟩ ?_ ?_ ?_ ?_
 ·simp only[bz,Av.get,Nat.reduceEqDiff,↓reduceIte,bg,dk,dm,and_self,true_and,and_true,List.length_map,List.length_nil]
  exact Le.refl _
 ·have hfs:AV.bf (mem (gB cd0.ver (pV 0 false cd0.ls)) aw 0 0 false cd0.ls).length (all.map .str)=true:=bH _ _
  have:2≤(mem (gB cd0.ver (pV 0 false cd0.ls)) aw 0 0 false cd0.ls).length:=by rw[aJ];simp[gB]
  simp only[cm,AV.hlt,hfs,Bool.and_true,Bool.true_and,Bool.and_eq_true,decide_eq_true_eq];omega
 ·simp[mem,gB,pV,cd0,bm,OB.hlt,AV.bf,AV.hlt]
 rintro⟨i,⟨ver,cx,ls⟩,k,j,z⟩ ⟨l1,l2,l3,l4,l5⟩;simp only at l1 l2 l3 l4 l5 ⊢;subst l5;obtain⟨v,hv⟩:∃v,v=pV k z ls:=⟨_,rfl⟩
 obtain⟨M,hM⟩:∃M,M=mem (gB ver (pV k z ls)) aw k j z ls:=⟨_,rfl⟩
 have hM0:M[0]? =some (.cells [.str [],.nilsl] false):=by rw[hM,dw (by simp[gB])];rfl
 have hM1:M[1]? =some (.cells [.str ver,v] false):=by rw[hM,dw (by simp[gB]),hv];rfl
 have hMl:2≤M.length:=by rw[hM,aJ];simp[gB];omega
 have hvI:v=.nilsl∨∃a b,v=.sl a 0 b 5:=by rw[hv];cases z<;>simp[pV]
 have hvC:v.isC=true:=by rcases hvI with h|⟨a,b,h⟩<;>rw[h]<;>rfl
 have hv1:v.cells=[v]:=by rcases hvI with h|⟨a,b,h⟩<;>rw[h]<;>rfl
 have hhl:∀(y:Nat×Cd×Nat×Nat×Bool),cm (mem (gB y.2.1.ver (pV y.2.2.1 y.2.2.2.2 y.2.1.ls)) aw y.2.2.1 y.2.2.2.1 y.2.2.2.2 y.2.1.ls).length [(8,.int .i64 ((y.1+1:Nat):Int)),(6,.int .i64 (all.length:Int)),(5,.vsl 0 false (all.map .str)),(2,.ptr 0 0),(7,.ptr 1 0),(3,.int .i64 0)]=true:=by
  intro y;have hfs:AV.bf (mem (gB y.2.1.ver (pV y.2.2.1 y.2.2.2.2 y.2.1.ls)) aw y.2.2.1 y.2.2.2.1 y.2.2.2.2 y.2.1.ls).length (all.map .str)=true:=bH _ _;have:2≤(mem (gB y.2.1.ver (pV y.2.2.1 y.2.2.2.2 y.2.1.ls)) aw y.2.2.1 y.2.2.2.1 y.2.2.2.2 y.2.1.ls).length:=by rw[aJ];simp[gB];omega
  simp only[cm,AV.hlt,hfs,Bool.and_true,Bool.true_and,Bool.and_eq_true,decide_eq_true_eq];omega
 have hfz:∀(kk:Nat) (H:List OB),(∀i,2≤i→i<M.length→H[i]? =M[i]?)→∃u,fz H (kk+1) v=some u∧Le u (.vsl 5 false (ls.map aw)):=by
  intro kk H hH;cases z with
  |false=>rw[hv,l3 rfl];exact⟨_,by unfold fz;rfl,.nils _ _⟩
  |true=>
   rw[hv];refine hG (n:=4) (k:=kk) (by decide) (fun x=>⟨[.str x.g,.str x.n,.vsl 3 x.x (x.ps.map aD),.str x.v],rfl,rfl⟩) (fun x=>by simp[aw,AV.cells,AV.hfs,AV.hf,aB]) (.inr ⟨2+k,rfl,?_⟩);have hlt:2+k<M.length:=by rw[hM,aJ];simp[gB]
   rw[hH _ (by omega) hlt,hM];exact dR (B:=gB ver (pV k true ls))
 rw[←hM];have pend:∀T E,bF s=none→Av.get T 2=.ptr 0 0→Av.get T 3=.int .i64 250→eI Tryz.prog Tryz.f23.results.toList (mU (bQ s)) .ret ⟨T,M.set 0 (.cells [.str [],.nilsl] false)++E,[]⟩:=by
  intro T E hn h2 h3;rw[hO,hn];refine zero _ _ 250 ?_ h2 h3;rw[List.getElem?_append_left (by rw[List.length_set];omega),List.getElem?_set_self (by omega)]
 have pend0:∀T,bF s=none→Av.get T 2=.ptr 0 0→Av.get T 3=.int .i64 250→eI Tryz.prog Tryz.f23.results.toList (mU (bQ s)) .ret ⟨T,M.set 0 (.cells [.str [],.nilsl] false),[]⟩:=by
  intro T hn h2 h3;have:=pend T [] hn h2 h3;rwa[List.append_nil]at this
 by_cases h:i<mid.length
 ·obtain⟨u,hu,hdrop⟩:=drop_at h
  have hul:=hme u (List.mem_of_getElem? hu);have hl:=FA u hul;have hlr:=uz u;have hia:∀H,ak Tryz.prog 25 (.vsl 0 false (all.map .str)) (.int .i64 ((i+1:Nat):Int)) H=some (.vptr [.str u]):=fun H=>eJ (v:=.str u) (by simp[hma i h,hu]) rfl H;rw[hdrop,mV]at l2;obtain⟨⟨⟨lg,ln,lx,lps,lv⟩,ok⟩,hq⟩:∃q,q=dL u:=⟨_,rfl⟩
  rw[←hq]at hl hlr;simp only[qH,aw]at hl hlr;refine .vc (by decide) ?_;cases ok with
  |false=>
   have hln:lnR u=none:=by rw[hlr];rfl
   have hn:bF s=none:=by rw[hpm,←l2];simp[stepG,hln]
   repeat'(first|(simp(disch:=first|omega|(simp only[zL];omega))only[go_sem,seval,hia,hM0,hM1,hbz,zM])|((with_reducible first|apply aj.pure|apply ar.pure);(with_reducible exact hl);(first|rfl|simp only[go_sem])))
   exact pend _ _ hn rfl rfl
  | true=>
   have hln:lnR u=some ⟨lg,ln,lx,lps,lv⟩:=by rw[hlr];rfl
   by_cases qv:ln=bP
   ·have ev:(ln==bP)=true:=by simp[qv]
    simp only[bP]at ev;by_cases c1:ver=[]
    case neg=>
     have e1:(ver==[])=false:=by simp[c1]
     have hn:bF s=none:=by rw[hpm,←l2];simp[stepG,hln,qv,c1]
     repeat'(first|(simp(disch:=first|omega|(simp only[zL];omega))only[go_sem,seval,hia,hM0,hM1,hbz,ev,e1,bne,zM])|((with_reducible first|apply aj.pure|apply ar.pure);(with_reducible exact hl);(first|rfl|simp only[go_sem])))
     exact pend _ _ hn rfl rfl
    have e1:(ver==[])=true:=by simp[c1]
    by_cases c2:lg=[]
    case neg=>
     have e2:(lg==[])=false:=by simp[c2]
     have hn:bF s=none:=by rw[hpm,←l2];simp[stepG,hln,qv,c2]
     repeat'(first|(simp(disch:=first|omega|(simp only[zL];omega))only[go_sem,seval,hia,hM0,hM1,hbz,ev,e1,e2,bne,zM])|((with_reducible first|apply aj.pure|apply ar.pure);(with_reducible exact hl);(first|rfl|simp only[go_sem])))
     exact pend _ _ hn rfl rfl
    have e2:(lg==[])=true:=by simp[c2]
    by_cases c3:lps.length=0
    case neg=>
     have hn:bF s=none:=by
      have:lps≠ []:=by intro h;rw[h]at c3;simp at c3
      rw[hpm,←l2];simp[stepG,hln,qv,this]
     have c3':0<lps.length:=by omega
     repeat'(first|(simp(disch:=first|omega|(simp only[zL];omega))only[go_sem,seval,hia,hM0,hM1,hbz,ev,e1,e2,bne,zM])|((with_reducible first|apply aj.pure|apply ar.pure);(with_reducible exact hl);(first|rfl|simp only[go_sem])))
     exact pend _ _ hn rfl rfl
    have c3':lps=[]:=List.length_eq_zero_iff.1 c3;cases c4:lv==[51,46,48]with
    | true=>
     have hst:stepG ⟨ver,false,ls⟩ u=some ⟨lv,false,ls⟩:=by simp[stepG,hln,qv,c1,c2,c3',version,c4]
     rw[hst,Option.bind_some]at l2
     repeat'(first|(simp(disch:=first|omega|(simp only[zL];omega))only[go_sem,seval,hia,hM0,hM1,ev,e1,e2,c4,bne,zM])|((with_reducible first|apply aj.pure|apply ar.pure);(with_reducible exact hl);(first|rfl|simp only[go_sem])))
     refine⟨(i+1,⟨lv,false,ls⟩,(if z then k else k+1),j+1,z),⟨h,l2,l3,by simp only;omega,rfl⟩,by simp only;omega,?_,hhl _,?_⟩
     ·simp only[bz,Av.get,Nat.reduceEqDiff,↓reduceIte,bg,dk,dm,and_self,true_and,and_true,List.length_map,List.length_nil]
     ·have hvz:pV (if z then k else k+1) z ls=v:=by rw[hv];cases z<;>rfl
      simp only[hvz]
      have:=nV (B:=gB lv v) (f:=aw) (k:=k) (j:=j) (z:=z) (L:=ls) (E:=[.cells [.str lg,.str ln,.vsl 3 lx (lps.map aD),.str lv] false]) (m:=(mem (gB lv v) aw (if z then k else k+1) (j+1) z ls).length) (wi (by
       rw[hv];refine iT fun hz=>?_
       rw[aJ,hz];simp[gB])) (ep _)
      have e:M.set 1 (.cells [.str lv,v] false)=mem (gB lv v) aw k j z ls:=by rw[hM,mem_set (by simp[gB]),←hv];rfl
      rw[e];exact this
    | false=>
     cases c5:lv==[52,46,48]with
     |false=>
      have hn:bF s=none:=by rw[hpm,←l2];simp[stepG,hln,qv,version,c4,c5]
      repeat'(first|(simp(disch:=first|omega|(simp only[zL];omega))only[go_sem,seval,hia,hM0,hM1,hbz,ev,e1,e2,c4,c5,bne,zM])|((with_reducible first|apply aj.pure|apply ar.pure);(with_reducible exact hl);(first|rfl|simp only[go_sem])))
      exact pend _ _ hn rfl rfl
     | true=>
      have hst:stepG ⟨ver,false,ls⟩ u=some ⟨lv,false,ls⟩:=by simp[stepG,hln,qv,c1,c2,c3',version,c4,c5]
      rw[hst,Option.bind_some]at l2
      repeat'(first|(simp(disch:=first|omega|(simp only[zL];omega))only[go_sem,seval,hia,hM0,hM1,ev,e1,e2,c4,c5,bne,zM])|((with_reducible first|apply aj.pure|apply ar.pure);(with_reducible exact hl);(first|rfl|simp only[go_sem])))
      refine⟨(i+1,⟨lv,false,ls⟩,(if z then k else k+1),j+1,z),⟨h,l2,l3,by simp only;omega,rfl⟩,by simp only;omega,?_,hhl _,?_⟩
      ·simp only[bz,Av.get,Nat.reduceEqDiff,↓reduceIte,bg,dk,dm,and_self,true_and,and_true,List.length_map,List.length_nil]
      ·have hvz:pV (if z then k else k+1) z ls=v:=by rw[hv];cases z<;>rfl
       simp only[hvz]
       have:=nV (B:=gB lv v) (f:=aw) (k:=k) (j:=j) (z:=z) (L:=ls) (E:=[.cells [.str lg,.str ln,.vsl 3 lx (lps.map aD),.str lv] false]) (m:=(mem (gB lv v) aw (if z then k else k+1) (j+1) z ls).length) (wi (by
        rw[hv];refine iT fun hz=>?_
        rw[aJ,hz];simp[gB])) (ep _)
       have e:M.set 1 (.cells [.str lv,v] false)=mem (gB lv v) aw k j z ls:=by rw[hM,mem_set (by simp[gB]),←hv];rfl
       rw[e];exact this
   ·have ev:(ln==bP)=false:=by simpa using qv
    simp only[bP]at ev;have hst:stepG ⟨ver,false,ls⟩ u=some ⟨ver,false,ls++[⟨lg,ln,lx,lps,lv⟩]⟩:=by simp[stepG,hln,qv]
    rw[hst,Option.bind_some]at l2;have hbs:au Tryz.prog 22 1 [(0,.agg [.str lg,.str ln,.vsl 3 lx (lps.map aD),.str lv])]=some (.vsl 5 true [aw ⟨lg,ln,lx,lps,lv⟩]):=by
     simp[au,Tryz.underlying22,yn,AV.cells,AV.told,List.range',aw]
    obtain⟨M',ha1,ha2,ha3,ha4,ha5⟩:=jn (wd:=5) (bytes:=72) Tryz.underlying22 yn aw (fun _=>rfl) (fun _=>rfl) (by decide) (gB ver (pV k z ls)) k j z ls (w0:=0) (fun hz=>.inr (l3 hz)) [.cells [.str lg,.str ln,.vsl 3 lx (lps.map aD),.str lv] false] ⟨lg,ln,lx,lps,lv⟩ true (by omega) hM;have hBl:(gB ver (pV k z ls)).length=2:=rfl;obtain⟨k',hk'⟩:∃k',k'=M.length+[OB.cells [.str lg,.str ln,.vsl 3 lx (lps.map aD),.str lv] false].length - 2:=⟨_,rfl⟩
    rw[hBl,←hk']at ha4;rw[hBl,←rP l3,←hv,←hk']at ha1;have hvN:bp 2 0 5 aw k' true (ls++[⟨lg,ln,lx,lps,lv⟩])=.sl (2+k') 0 (ls++[(⟨lg,ln,lx,lps,lv⟩:Ln)]).length 5:=rfl;rw[hvN]at ha1;have hM'1:M'[1]? =some (.cells [.str ver,v] false):=by rw[ha5 1 (by simp[gB]),hv];rfl
    have hvd:deN v=bp 2 0 5 aw k z ls:=by rw[hv];exact rP l3
    repeat'(first|(simp(disch:=first|omega|(simp only[zL];omega))only[go_sem,seval,hia,hM0,hM1,hM'1,ev,hbs,ha1,zM])|((with_reducible first|apply aj.pure|apply ar.pure);(with_reducible exact hl);(first|rfl|simp only[go_sem])))
    refine⟨(i+1,⟨ver,false,ls++[⟨lg,ln,lx,lps,lv⟩]⟩,k',0,true),⟨h,l2,(fun hh=>by cases hh),by simp only[List.length_append,List.length_cons,List.length_nil];omega,rfl⟩,by simp only;omega,?_,hhl _,?_⟩
    ·simp only[bz,Av.get,Nat.reduceEqDiff,↓reduceIte,bg,dk,dm,and_self,true_and,and_true,List.length_map,List.length_nil]
    ·have h4:=ha4 (mem (gB ver (pV k' true (ls++[⟨lg,ln,lx,lps,lv⟩]))) aw k' 0 true (ls++[⟨lg,ln,lx,lps,lv⟩])).length (wi (iT fun hz=>?_)) (ep _)
     ·have h5:=gK (b:=.cells [.str ver,pV k' true (ls++[⟨lg,ln,lx,lps,lv⟩])] false) (i:=1) ?_ h4
      ·rw[mem_set (by simp[gB])]at h5
       have e:(gB ver (pV k z ls)).set 1 (.cells [.str ver,pV k' true (ls++[⟨lg,ln,lx,lps,lv⟩])] false)=gB ver (pV k' true (ls++[⟨lg,ln,lx,lps,lv⟩])):=rfl;rw[e]at h5;simpa[pV]using h5
      ·have:(pV k' true (ls++[(⟨lg,ln,lx,lps,lv⟩:Ln)])).hlt (mem (gB ver (pV k' true (ls++[⟨lg,ln,lx,lps,lv⟩]))) aw k' 0 true (ls++[⟨lg,ln,lx,lps,lv⟩])).length=true:=iT fun _=>by rw[aJ];simp[gB]
       simp[OB.hlt,AV.bf,AV.hlt,this]
     ·rw[aJ,hk']
      rw[hM,aJ,hz];simp[gB];omega
 ·have hie:i=mid.length:=by omega
  subst hie;rw[List.drop_length,mV]at l2;obtain⟨u,hu,hle⟩:=hfz 18 M (fun _ _ _=>rfl);obtain⟨cc,hcc⟩:∃cc,cc=aQ ⟨ver,false,ls⟩:=⟨_,rfl⟩
  have hck:ad Tryz.prog 27 [.agg [.str ver,u]] (.ret (.int .i64 cc)):=by
   rw[hcc];exact ad.le (.cons _ _ _ _ (.agg _ _ (.cons _ _ _ _ (.refl _) (.cons _ _ _ _ hle .nil))) .nil) (Cz ⟨ver,false,ls⟩)
  have hln:aG M [.agg [.str ver,v]] (.ret (.int .i64 cc))=some [.agg [.str ver,u]]:=by
   have h1:fz M 20 (.agg [.str ver,v])=some (.agg [.str ver,u]):=jN (k:=18) (by simp only[List.mapM_cons,List.mapM_nil,hu];rfl);exact wU (by simp only[List.mapM_cons,List.mapM_nil,h1];rfl) rfl
  refine .vc (by decide) ?_;by_cases qc:cc=0
  ·have hn:bF s=some ⟨ver,false,ls⟩:=by rw[hpm,←l2];simp[okC,←hcc,qc]
   rw[qc]at hck hln
   repeat'(first|(simp(disch:=first|omega|(simp only[zL];omega))only[go_sem,seval,hM0,hM1,hvC,hv1,zM])|(guard_target=~ aj _ _ _ _ _ _ _;refine aj.aG _ hck hln ?_))
   rw[hO,hn];refine ry (v:=.agg [.str ver,v]) (u:=.int .i64 0) 2 24 3 rfl rfl ?_ rfl ⟨gn (k:=17) (ts:=[.str ver,.vsl 5 false (ls.map aw)]) (cM rfl ⟨hfz 17 _ (fun i hi hl=>?_),trivial⟩),cM rfl trivial⟩
   ·simp only[Av.get,Nat.reduceEqDiff,↓reduceIte]
    rw[va];simp only[ldG];rw[List.getElem?_set_self (by omega)];rfl
   ·rw[List.getElem?_set_ne (by omega)]
  ·have hn:bF s=none:=by rw[hpm,←l2];simp[okC,←hcc,qc]
   have qc':0<cc:=by omega
   repeat'(first|(simp(disch:=first|omega|(simp only[zL];omega))only[go_sem,seval,hM0,hM1,hvC,hv1,hbz,zM])|(guard_target=~ aj _ _ _ _ _ _ _;refine aj.aG _ hck hln ?_))
   exact pend0 _ hn rfl rfl
def xW(s:Bytes):(Nat→List Bytes)×Nat:=if(bQ s).2=0 then ofP (bQ s).1 else(iZ,(bQ s).2)
theorem uB{rs:List ResultVar}{T:List (Nat×AV)}{K:List OB}{xs:Nat→List Bytes}{vs:List AV}{e:Int}(hr:rs=[.cell 2 27,.tmp 3])(hb:K[0]? =some (.cells vs false))(hv:vs=bX∧xs=iZ∨vs=(bo xs).map aF)(h2:Av.get T 2=.ptr 0 0)(h3:Av.get T 3=.int .i64 e):
    eI Tryz.prog rs (.ret (.tup [.agg ((bo xs).map aF),.int .i64 e])) .ret ⟨T,K,[]⟩:=by
  rcases hv with⟨rfl,rfl⟩|rfl
  · subst hr
    have hc:=bL.none hb;obtain⟨us,h4,h5⟩:=hc.fz (k:=17);exact vo (a1:=⟨T,K,[]⟩) rfl (lS 2 27 3 (by simp only[h2];exact hc.ld) h3) (wW h4 rfl) (.tup _ _ (.cons _ _ _ _ (.agg _ _ h5) (.cons _ _ _ _ (.refl _) .nil)))
  · subst hr
    refine vo (a1:=⟨T,K,[]⟩) (v:=.tup [.agg ((bo xs).map aF),.int .i64 e]) rfl (lS 2 27 3 ?_ h3) (dj (by simp[AV.hf,AV.hfs,br])) (.refl _);simp only[h2];exact mh hb (ck xs)
theorem bdN:bW Tryz.prog 27 []=some (.agg [.nilsl,.nilsl,.nilsl,.nilsl,.nilsl,.nilsl,.nilsl,.nilsl]):=by kernel_rfl
set_option maxRecDepth 8000 in
theorem Lr(s:Bytes)(hs:s.length≤1000000):ad Tryz.prog 22 [.str s] (.ret (.tup [.agg ((bo (xW s).1).map aF),.int .i64 ((xW s).2:Nat)])):=by
 have hp:=H4 s hs;have ho:=vW (bQ s).1;simp only[mU]at hp;unfold xW;obtain⟨⟨⟨ver,fx,ls⟩,E⟩,hq⟩:∃q,q=bQ s:=⟨_,rfl⟩
 rw[←hq]at hp ho ⊢;simp only at hp ho ⊢;have hLh:=bq ls;simp only[bV]at hp ho;generalize ofP ⟨ver,fx,ls⟩=r at*;obtain⟨xs,D⟩:=r;simp only at ho;obtain⟨Y,hY⟩:∃Y,Y=(bo xs).map aF:=⟨_,rfl⟩
 have hYc:Y.length=8:=by rw[hY,List.length_map,ck]
 have hYi:Y.all AV.isC=true:=by rw[hY];exact jc _
 have hYh:AV.hfs Y=true:=by rw[hY];exact br _
 rw[←hY]at ho;generalize ls.map aw=L at*;have hst:∀A,aA Tryz.prog 27 (.ptr 0 0) (.agg Y) [.cells [.nilsl,.nilsl,.nilsl,.nilsl,.nilsl,.nilsl,.nilsl,.nilsl] false,A]=some [.cells Y false,A]:=by
  intro A;exact eS (vs:=bX) rfl rfl hYc hYi rfl
 have hsn:∀A,aA Tryz.prog 27 (.ptr 0 0) (.agg [.nilsl,.nilsl,.nilsl,.nilsl,.nilsl,.nilsl,.nilsl,.nilsl]) [.cells [.nilsl,.nilsl,.nilsl,.nilsl,.nilsl,.nilsl,.nilsl,.nilsl] false,A]=some [.cells [.nilsl,.nilsl,.nilsl,.nilsl,.nilsl,.nilsl,.nilsl,.nilsl] false,A]:=by
  intro A;exact eS (vs:=bX) rfl rfl rfl rfl rfl
 refine ad.of Tryz.func22 rfl (ab enters Tryz.func22 rfl) (by simp[Tryz.ntmps22]) ?_;show W Tryz.prog 19 0 none _ _ _;refine W.vc (by decide) ?_;by_cases hE:E=0
 ·subst hE
  repeat'(first|(simp(disch:=first|omega|(simp only[zL];omega))only[go_sem,seval,hst])|((with_reducible first|apply aj.pure|apply ar.pure);(with_reducible assumption);(first|rfl|simp only[go_sem,hLh,hYh])))
  try rw[if_pos rfl]
  exact uB rfl rfl (.inr hY) rfl rfl
 ·have hb:((E:Nat):Int)≠0:=by omega
  repeat'(first|(simp(disch:=first|omega|(simp only[zL];omega))only[go_sem,seval,hsn,bdN,hb])|((with_reducible first|apply aj.pure|apply ar.pure);(with_reducible exact hp);(first|rfl|simp only[go_sem,hLh])))
  try rw[if_neg hE]
  exact uB rfl rfl (.inl ⟨rfl,rfl⟩) rfl rfl
theorem CQ:ad Tryz.prog 17 [.agg ((bo iZ).map aF),.agg [.nilsl,.nilsl,.nilsl,.nilsl,.nilsl,.nilsl,.nilsl,.nilsl]] (.ret (.bool true)):=by
 have h:=xy (bo iZ) (bo iZ) (ck _) (ck _);rw[pc]at h;refine ad.le (.cons _ _ _ _ (.refl _) (.cons _ _ _ _ (.agg _ [.vsl 0 false [],.vsl 0 false [],.vsl 0 false [],.vsl 0 false [],.vsl 0 false [],.vsl 0 false [],.vsl 0 false [],.vsl 0 false []] ?_) .nil)) h;exact .cons _ _ _ _ (.nils _ _) (.cons _ _ _ _ (.nils _ _) (.cons _ _ _ _ (.nils _ _) (.cons _ _ _ _ (.nils _ _) (.cons _ _ _ _ (.nils _ _) (.cons _ _ _ _ (.nils _ _) (.cons _ _ _ _ (.nils _ _) (.cons _ _ _ _ (.nils _ _) .nil)))))))
set_option maxRecDepth 8000 in
theorem cardsTexts(s:Bytes):ad Tryz.prog 8 [.str s] (.ret (.bool true)):=by
 have hk:=IU;by_cases q0:s.length>5000
 case pos=>
  refine ad.of Tryz.func8 rfl (ab enters Tryz.func8 rfl) (by simp[Tryz.ntmps8]) ?_;show W Tryz.prog 52 0 none _ _ _;refine W.vc (by decide) ?_
  repeat'(first|(simp(disch:=first|omega|(simp only[zL];omega))only[go_sem,seval])|((with_reducible first|apply aj.pure|apply ar.pure);(with_reducible exact hk);(first|rfl|simp only[go_sem])))
  exact⟨_,rfl,_,rfl,.refl _⟩
 have h1:=Lr s (by omega);have h2:=IV s (by omega);have h3:=MP (bQ s).1;simp only[mU]at h2;unfold xW at h1;obtain⟨⟨c,E⟩,hq⟩:∃q,q=bQ s:=⟨_,rfl⟩
 rw[←hq]at h1 h2 h3;simp only at h1 h2 h3;have hs:=xy (bo (ofR c).1) (bo (ofR c).1) (ck _) (ck _);rw[pc]at hs;have hn:=CQ;by_cases hE:E=0
 ·subst hE
  rw[if_pos rfl,(of_same c).1,(of_same c).2]at h1;obtain⟨ver,fx,ls⟩:=c;have hLh:=bq ls;simp only[bV]at h2 h3;generalize(ofR ⟨ver,fx,ls⟩).2=D at*;obtain⟨Y,hY⟩:∃Y,Y=(bo (ofR ⟨ver,fx,ls⟩).1).map aF:=⟨_,rfl⟩
  have hYc:Y.length=8:=by rw[hY,List.length_map,ck]
  have hYi:Y.all AV.isC=true:=by rw[hY];exact jc _
  have hYh:AV.hfs Y=true:=by rw[hY];exact br _
  rw[←hY]at h1 h3 hs;generalize ls.map aw=L at*;have hst0:aA Tryz.prog 27 (.ptr 0 0) (.agg Y) [.cells [.nilsl,.nilsl,.nilsl,.nilsl,.nilsl,.nilsl,.nilsl,.nilsl] false]=some [.cells Y false]:=eS (vs:=bX) rfl rfl hYc hYi rfl;have hst2:∀A B,aA Tryz.prog 27 (.ptr 2 0) (.agg Y) [A,B,.cells [.nilsl,.nilsl,.nilsl,.nilsl,.nilsl,.nilsl,.nilsl,.nilsl] false]=some [A,B,.cells Y false]:=fun A B=>eS (vs:=bX) rfl rfl hYc hYi rfl;have hld0:∀Z,ao Tryz.prog 27 (.ptr 0 0) (.cells Y false::Z)=some (.agg Y):=by
   intro Z;simp[pj,ldG,hYc];exact List.take_of_length_le (by omega)
  have hld2:∀A B Z,ao Tryz.prog 27 (.ptr 2 0) (A::B::.cells Y false::Z)=some (.agg Y):=by
   intro A B Z;simp[pj,ldG,hYc];exact List.take_of_length_le (by omega)
  refine ad.of Tryz.func8 rfl (ab enters Tryz.func8 rfl) (by simp[Tryz.ntmps8]) ?_;show W Tryz.prog 52 0 none _ _ _;refine W.vc (by decide) ?_
  repeat'(first|(simp(disch:=first|omega|(simp only[zL];omega))only[go_sem,seval,hst0,hst2,hld0,hld2,beq_self_eq_true])|((with_reducible first|apply aj.pure|apply ar.pure);(with_reducible assumption);(first|rfl|simp only[go_sem,hLh,hYh])))
  exact⟨_,rfl,_,rfl,.refl _⟩
 ·rw[if_neg hE]at h1
  have hb:((E:Nat):Int)≠0:=by omega
  obtain⟨ver,fx,ls⟩:=c;have hLh:=bq ls;simp only[bV]at h2;obtain⟨Y,hY⟩:∃Y,Y=(bo iZ).map aF:=⟨_,rfl⟩
  have hYc:Y.length=8:=by rw[hY,List.length_map,ck]
  have hYi:Y.all AV.isC=true:=by rw[hY];exact jc _
  have hYh:AV.hfs Y=true:=by rw[hY];exact br _
  simp only at h1;rw[←hY]at h1 hn;generalize ls.map aw=L at*;have hst0:aA Tryz.prog 27 (.ptr 0 0) (.agg Y) [.cells [.nilsl,.nilsl,.nilsl,.nilsl,.nilsl,.nilsl,.nilsl,.nilsl] false]=some [.cells Y false]:=eS (vs:=bX) rfl rfl hYc hYi rfl;have hld0:∀Z,ao Tryz.prog 27 (.ptr 0 0) (.cells Y false::Z)=some (.agg Y):=by
   intro Z;simp[pj,ldG,hYc];exact List.take_of_length_le (by omega)
  refine ad.of Tryz.func8 rfl (ab enters Tryz.func8 rfl) (by simp[Tryz.ntmps8]) ?_;show W Tryz.prog 52 0 none _ _ _;refine W.vc (by decide) ?_
  repeat'(first|(simp(disch:=first|omega|(simp only[zL];omega))only[go_sem,seval,hst0,hld0,hb,bdN,beq_self_eq_true])|((with_reducible first|apply aj.pure|apply ar.pure);(with_reducible assumption);(first|rfl|simp only[go_sem,hLh,hYh])))
  exact⟨_,rfl,_,rfl,.refl _⟩
open Go Go.Av Go.ChangeShapes Go.WideShapes Go.ChangeAt Go.RowKit
section
variable{H:Type} {enc:TypeId×Value→H} {w:World} {base:Nat} {sp:Nat→Bool} {held:Bool}
set_option maxRecDepth 100000 in
theorem zr{v:Value}{d:DataW H}{ps:List MemPlace}{r:Reach}{b0:Nat}(hval:Value.okWide Tryz.prog w r b0 9 v)(hd:DataW.Trod enc Tryz.prog w base sp held 9 v d ps):
    ∃s:Bytes,VR (vq w) w noμ (.str s) v:=by
  obtain⟨b,rfl,_⟩:=Go.ChangeMaps.open_string Tryz.underlying9 hval hd;obtain⟨fuel,hf⟩:=hd;obtain⟨u,⟨s,rfl⟩,hu⟩:=yB (enc:=enc) Tryz.underlying9 fuel _ _ hf;have hu':VRs (vq w) w noμ [.str s] [.string b]:=hu;cases hu' with
  |cons _ _ _ _ g _=>exact⟨s,g⟩
end
theorem pF {P:Program} {f:FuncId} {fn:Func} {c:Code} {args:List AV} {Vs:List Value} {r:AV} {V:Value} (hN:Go.Av.Enters P) (hf:P.funcs[f]? =some fn) (hb:fn.body=some c) (w:World) (hp:ad P f args (.ret r))
    (hv:VRs (vq w) w noμ args Vs) (hr: ∀F' w' R,VR F' w' noμ r R→R=V):Calls P f Vs.toArray w fun e w'=>e=.returned V∧Below w.heap.size w w':=by
  rcases hp (vq w) w Vs (fun b o h=>h) hv with⟨w1,h1,rfl,h2⟩|⟨V',w1,h1,h2⟩
  · refine h2.mono ?_
    rintro e w' ⟨hbl,F',_,_,_,ho⟩;cases ho with
    |ret _ R h=>exact⟨by rw[hr _ _ _ h],hbl⟩
  · rw[ab hN hf hb]at h1;cases h1
theorem zt {H:Type} {enc:TypeId×Value→H} {P:Program} {f:Func} {s:ChangeSpec} {apart fresh handsOn again:Bool} {W W':World} {args:Array Value} {v:Value} {ds gs:List (DataW H)} {before pa pv:List MemPlace}
    (hW:DataW.Whole enc P f.params.toList s.vars apart W args.toList ds gs before)
    (hres: ∀(b:Nat) (sp:Nat→Bool) (hd:Bool),DataW.TrodAll enc P W' b sp hd f.resultTypes.toList (v.resultList f.resultTypes.size) (s.fn H (ds++gs)).results [])
    (hargs: ∀sp:Nat→Bool,(∀p∈before,sp p.block=true)→DataW.TrodAll enc P W' 0 sp true f.params.toList args.toList (s.fn H (ds++gs)).args pa)
    (hvars: ∀sp:Nat→Bool,(∀p∈before,sp p.block=true)→DataW.TrodVars enc P W' sp s.vars (s.fn H (ds++gs)).vars pv)
    (hps:before=pa++pv) (hbl:Below W.heap.size W W')
    (hok: ∀(j:Nat) (t:TypeId) (r:Value),f.resultTypes[j]? =some t→(v.resultList f.resultTypes.size)[j]? =some r→Value.okWide P W' .any 0 t r):
    s.post enc P f apart fresh handsOn again W args v W':=by
  have hlt: ∀p∈before,p.block<W.heap.size:=fun p hp=>hW.lt p hp;refine⟨ds,gs,before,[],pa,pv,hW,hres _ _ _,hargs (fun b=>decide (b<W.heap.size)) (fun p hp=>by simpa using hlt p hp),hvars (fun b=>decide (b<W.heap.size)) (fun p hp=>by simpa using hlt p hp),?_,fun _=> ?_⟩
  · refine World.keptBut_mono (fun p hp=>⟨hp,?_⟩) (hbl.frame (· ∈before))
    rw[hps,List.mem_append]at hp;exact Or.inr hp
  · obtain⟨_,_,_,_,_,hz,hn⟩:=hW
    refine⟨hok,_,_,([]++pa)++pv,⟨[]++pa,pv,trodAll_append (hargs _ (fun _ _=>rfl)) (hres _ _ _),hvars _ (fun _ _=>rfl),rfl,?_,?_⟩,?_⟩
    · intro b off hp
      have hb:MemPlace.cell b off∈before:=by rw[hps];simpa using hp
      rw[hbl.frozen (hlt _ hb)];exact hz b off hb
    · intro ha
      have:=hn ha;rw[hps]at this;simpa using this
    · intro p hp _
      rw[hps];simpa using hp
theorem laidAll:laidOutB Tryz.prog=true:=by kernel_rfl
theorem stays {H:Type} {enc:TypeId×Value→H} {t:TypeId} (hr:Tryz.prog.readableRec t=true) (hrow:t<Tryz.prog.types.size) {W W':World} {v:Value} {d:DataW H} {ps:List MemPlace}
    (h:DataW.Trod enc Tryz.prog W 0 (fun _=>true) true t v d ps) (hb:Below W.heap.size W W') (hlt: ∀x∈ps,x.block<W.heap.size) (sp':Nat→Bool) (hsp: ∀x∈ps,sp' x.block=true):DataW.Trod enc Tryz.prog W' 0 sp' true t v d ps:=
  WideElems.Trod_stays laidAll hr hrow h (fun x hx=>hb.same (hlt x hx)) hsp
end Go.Proofs.YtekcidbpejicdaaGreatDoor
