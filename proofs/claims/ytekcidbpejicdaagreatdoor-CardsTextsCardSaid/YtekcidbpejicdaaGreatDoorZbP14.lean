/- Contracts of functions that the statements of this seat reach: under the conditions named at each theorem. -/
import Derived.Test.YtekcidbpejicdaaGreatDoorZbP8
import Derived.Test.YtekcidbpejicdaaGreatDoorZbP13
import Derived.Test.YtekcidbpejicdaaGreatDoorZbP7
namespace Go.Proofs.YtekcidbpejicdaaGreatDoor
set_option linter.unusedVariables false
set_option linter.unusedSimpArgs false
open Go Go.Av Go.RowKit
def fsV(k:Kd):AV:=.vsl 0 true (k.fs.map fun f:Nat=>AV.int .i64 (f:Int))
def encS(l:Ln)(k:Kd)(n:Bytes):AV:=.agg [.str l.g,.str l.n,.vsl 3 l.x (l.ps.map aD),.str l.v,fsV k,.bool k.parts,.bool k.many,.str n]
set_option maxRecDepth 8000 in
theorem MI(l:Ln)(k:Kd)(n:Bytes)(hv:l.v.length≤1000000):ad Tryz.prog 70 [encS l k n] (.ret (.vsl 0 false ((gR k l.v).map .str))):=by
 obtain⟨fs,b,m⟩:=k;obtain⟨g,nm,x,ps,v⟩:=l;obtain⟨P,hP⟩:∃P,P=ps.map aD:=⟨_,rfl⟩
 obtain⟨Fv,hF⟩:∃Fv,Fv=fs.map fun f:Nat=>AV.int .i64 (f:Int):=⟨_,rfl⟩
 simp only[encS,fsV,←hP,←hF,gR];have hb1:=ma v;have hpt:=H9 v false hv;have hm:mk false=59:=rfl;rw[hm]at hpt;cases b with
 |true=>
  rw[if_pos rfl];refine ad.of Tryz.func70 rfl (ab enters Tryz.func70 rfl) (by simp[Tryz.ntmps70]) ?_;show W Tryz.prog 15 0 none _ _ _;refine W.vc (by decide) ?_
  repeat'(first|(simp(disch:=first|omega|(simp only[zL];omega))only[go_sem,seval])|((with_reducible first|apply aj.pure|apply ar.pure);(with_reducible exact hpt);(first|rfl|simp only[go_sem])))
  exact rn 2 rfl rfl rfl (by simp[Av.get,AV.hf,az]) (.refl _)
 |false=>
  rw[if_neg (by simp)];refine ad.of Tryz.func70 rfl (ab enters Tryz.func70 rfl) (by simp[Tryz.ntmps70]) ?_;show W Tryz.prog 15 0 none _ _ _;refine W.vc (by decide) ?_
  repeat'(first|(simp(disch:=first|omega|(simp only[zL];omega))only[go_sem,seval,hb1]))
  exact rn 2 rfl rfl rfl (by simp[Av.get,AV.hf,AV.hfs]) (.exact _ _ _)
theorem fX(m:UInt8):∀(s:Bytes) (b:Bool) (cur:Bytes),∀p∈bu m b cur s,p.length≤cur.length+s.length
 | [],b,cur,p,hp=>by rw[fU,List.mem_singleton]at hp;subst hp;simp
 |x::t,true,cur,p,hp=>by
  have:=fX m t false (cur++[x]) p hp;simp at this ⊢;omega
 | x::t,false,cur,p,hp=>by
  unfold bu at hp;split at hp
  ·have:=fX m t true (cur++[x]) p hp
   simp at this ⊢;omega
  ·split at hp
   ·rcases List.mem_cons.1 hp with rfl|hp
    ·simp
    ·have:=fX m t false [] p hp
     simp at this ⊢;omega
   ·have:=fX m t false (cur++[x]) p hp
    simp at this ⊢;omega
theorem tX{k:Kd}{v p:Bytes}(h:p∈gR k v):p.length≤v.length:=by
 unfold gR at h;split at h
 ·simpa using fX 59 v false [] p h
 ·rw[List.mem_singleton]at h;subst h;exact Nat.le_refl _
theorem BW(k:Kd)(v:Bytes):(gR k v).length≤v.length+1:=by
 unfold gR;split
 ·exact eQ 59 false [] v
 ·simp
set_option maxRecDepth 8000 in
theorem lh(l:Ln)(k:Kd)(n:Bytes)(hv:l.v.length≤1000000)(hk:k.fs.length≤8):ad Tryz.prog 31 [encS l k n] (.ret (.vsl 0 false ((cC k l.v).map .str))):=by
 have hct:=MI l k n hv;obtain⟨cs,hcs⟩:∃cs,cs=gR k l.v:=⟨_,rfl⟩
 have hcb:∀p∈cs,p.length≤1000000:=fun p hp=>Nat.le_trans (tX (hcs ▸ hp)) hv;rw[←hcs]at hct;have hvs:cC k l.v=(List.range k.fs.length).map (atC cs):=by rw[cC,hcs]
 rw[hvs];obtain⟨fs,b,m⟩:=k;obtain⟨g,nm,px,ps,v⟩:=l;obtain⟨P,hP⟩:∃P,P=ps.map aD:=⟨_,rfl⟩
 obtain⟨Fv,hF⟩:∃Fv,Fv=fs.map fun f:Nat=>AV.int .i64 (f:Int):=⟨_,rfl⟩
 have hFl:Fv.length=fs.length:=by rw[hF];simp
 simp only[encS,fsV,←hP,←hF]at hct ⊢;simp only at hk;have hPh:AV.hfs P=true:=hP ▸ aB ps;have hFh:AV.hfs Fv=true:=by rw[hF,aR,List.all_eq_true];intro v hv;obtain⟨l,_,rfl⟩:=List.mem_map.1 hv;rfl
 have hb1:=ma;have hlc:∀H,aI Tryz.prog 25 (.vsl 0 false (cs.map .str)) H=some (.int .i64 cs.length):=by intro H;simp[aI,Tryz.underlying25]
 have hlf:∀H,aI Tryz.prog 64 (.vsl 0 true Fv) H=some (.int .i64 fs.length):=by intro H;simp[aI,Tryz.underlying64,hFl]
 refine ad.of Tryz.func31 rfl (ab enters Tryz.func31 rfl) (by simp[Tryz.ntmps31]) ?_;show W Tryz.prog 31 0 none _ _ _;refine W.vc (by decide) ?_
 repeat'(first|(simp(disch:=first|omega|(simp only[zL];omega))only[go_sem,seval,hlf])|((with_reducible first|apply aj.pure|apply ar.pure);(with_reducible exact hct);(first|rfl|simp only[go_sem,hPh,hFh])))
 refine W.bc (X:=Nat×Nat×Bool×List Bytes) (fun x=>[(13,.int .i64 (x.1:Int)),(12,.int .i64 (fs.length:Int)),(3,.vsl 0 false (cs.map .str)),(4,bp 1 0 0 AV.str x.2.1 x.2.2.1 x.2.2.2)]) (fun x=>mem [.cells [.str g,.str nm,.vsl 3 px P,.str v,.vsl 0 true Fv,.bool b,.bool m,.str n] false] AV.str x.2.1 0 x.2.2.1 x.2.2.2)
  (fun x=>x.1≤fs.length∧x.2.2.2=(List.range x.1).map (atC cs)∧(x.2.2.1=false→x.2.2.2=[])) (fun x=>fs.length - x.1) (0,0,false,[]) ⟨Nat.zero_le _,rfl,fun _=>rfl⟩ ⟨rfl,rfl,rfl,rfl,trivial⟩ rfl ?_
 rintro⟨i,kk,z,out⟩ ⟨l1,l2,l3⟩;simp only at l1 l2 l3 ⊢;have hol:out.length=i:=by rw[l2];simp
 have hde:deN (bp 1 0 0 AV.str kk z out)=bp 1 0 0 AV.str kk z out:=eC _ _ _ _ _ _ _;refine .vc (by decide) ?_;by_cases h:i<fs.length
 ·have hf:∃f,fs[i]? =some f:=⟨_,List.getElem?_eq_getElem h⟩
  have hap:∀s:Bytes,aE Tryz.prog 25 25 (bp 1 0 0 AV.str kk z out) (.vsl 0 true [.str s]) (mem [.cells [.str g,.str nm,.vsl 3 px P,.str v,.vsl 0 true Fv,.bool b,.bool m,.str n] false] AV.str kk 0 z out)=some (bp 1 0 0 AV.str (if z then kk+1 else kk) true (out++[s]),mem [.cells [.str g,.str nm,.vsl 3 px P,.str v,.vsl 0 true Fv,.bool b,.bool m,.str n] false] AV.str (if z then kk+1 else kk) 0 true (out++[s])):=fun s=>
   iM (wd:=0) (bytes:=16) Tryz.underlying25 gH AV.str (fun _=>rfl) (fun _=>rfl) (by decide) [_] kk z out (fun h=>.inl rfl) s true (by omega)
  have hnx:(List.range (i+1)).map (atC cs)=out++[atC cs i]:=by rw[List.range_succ,List.map_append,←l2];rfl
  by_cases h1:i<cs.length
  ·obtain⟨c,hc,hd⟩:=drop_at h1
   have hcc:c.length≤1000000:=hcb c (List.mem_of_getElem? hc);have hia:∀H,ak Tryz.prog 25 (.vsl 0 false (cs.map .str)) (.int .i64 (i:Int)) H=some (.vptr [.str c]):=fun H=>eJ (v:=.str c) (by simp[hc]) rfl H;have hat:atC cs i=cH c:=by simp[atC,hc]
   repeat'(first|(simp(disch:=first|omega|(simp only[zL];omega))only[go_sem,seval,hlc,hia,hb1,hap,hde])|((with_reducible first|apply aj.pure|apply ar.pure);(with_reducible exact H8 c hcc);(first|rfl|simp only[go_sem])))
   exact⟨(i+1,(if z then kk+1 else kk),true,out++[cH c]),⟨h,by simp only;rw[hnx,hat],fun h=>by cases h⟩,by simp only;omega,⟨rfl,rfl,rfl,rfl,trivial⟩,rfl⟩
  ·have hat:atC cs i=[]:=by simp[atC,List.getElem?_eq_none (show cs.length≤i by omega)]
   repeat'(first|(simp(disch:=first|omega|(simp only[zL];omega))only[go_sem,seval,hlc,hb1,hap,hde]))
   exact⟨(i+1,(if z then kk+1 else kk),true,out++[[]]),⟨h,by simp only;rw[hnx,hat],fun h=>by cases h⟩,by simp only;omega,⟨rfl,rfl,rfl,rfl,trivial⟩,rfl⟩
 ·have e:i=fs.length:=by omega
  subst e
  repeat'(first|(simp(disch:=first|omega|(simp only[zL];omega))only[go_sem,seval,hde]))
  rw[←l2];obtain⟨w,hz,hw⟩:=ia (B:=[.cells [.str g,.str nm,.vsl 3 px P,.str v,.vsl 0 true Fv,.bool b,.bool m,.str n] false]) (f:=AV.str) (w0:=0) (k:=kk) (z:=z) (L:=out) (n:=19) (M:=mem [.cells [.str g,.str nm,.vsl 3 px P,.str v,.vsl 0 true Fv,.bool b,.bool m,.str n] false] AV.str kk 0 z out) (fun h=>by subst h;exact dR) (az _) (di _);exact kI 2 rfl rfl rfl hz (by rcases hw with rfl|rfl<;>first|exact .exact _ _ _|exact .refl _)
def kdL:Option Kd→List AV
 |some k=>[fsV k,.bool k.parts,.bool k.many]
 |none=>[.nilsl,.bool false,.bool false]
def dF(l:Ln):AV:=.agg ([.str l.g,.str l.n,.vsl 3 l.x (l.ps.map aD),.str l.v]++kdL (aV (small l.n))++[.str (small l.n)])
theorem ulK:Tryz.prog.underlying 97=some (.map 9 66):=by kernel_rfl
theorem zaK:bS Tryz.prog 66=some (.agg [.nilsl,.bool false,.bool false]):=by kernel_rfl
theorem KB(n:Bytes)(H:List OB):dA Tryz.prog 97 (.vmap (fc.map .str) fW) (.str n) true H=some (.tup [.agg (kdL (aV n)),.bool (aV n).isSome]):=by
 have h:=kn n;generalize aV n=o at h ⊢;cases h with
 |none _ h1 h2 h3 h4 h5 h6 h7=>
  have e:∀m,n≠m→(n==m)=false:=fun m h=>by simp[h]
  simp[dA,ulK,Tryz.underlying9,zaK,nD,fc,fj,iE,e _ h1,e _ h2,e _ h3,e _ h4,e _ h5,e _ h6,e _ h7,kdL]
 |_=>simp[dA,ulK,Tryz.underlying9,zaK,nD,fc,fW,fj,iE,nFN,nN,dU,bA,cu,bB,dV,kdL,sa,fsV]
theorem BX(c:Cd):ad Tryz.prog 30 [bV c] (.ret (.func (.func 68) [] [.vptr [.str c.ver,.vsl 5 c.x (c.ls.map aw)],.vptr [.vmap (fc.map .str) fW]])):=by
 obtain⟨ver,x,ls⟩:=c;simp only[bV];obtain⟨L,hL⟩:∃L,L=ls.map aw:=⟨_,rfl⟩
 obtain⟨A,hA⟩:∃A,A=AV.vmap (fc.map .str) fW:=⟨_,rfl⟩
 have hLh:AV.hfs L=true:=hL ▸ bq ls;have hAh:AV.hf A=true:=by rw[hA];rfl
 have hAc:A.cells=[A]:=by rw[hA];rfl
 have hAi:A.isC=true:=by rw[hA];rfl
 have hAd:deN A=A:=by rw[hA];rfl
 have hkv:=vQ;rw[←hA]at hkv ⊢;rw[←hL];have h1:fz [.cells [.str ver,.vsl 5 x L] false,.cells [A] false] 19 (.ptr 0 0)=some (.vptr [.str ver,.vsl 5 x L]):=by
  unfold fz;rw[if_neg (by simp[AV.hf])];simp[AV.hfs,AV.hf,hLh]
 have h2:fz [.cells [.str ver,.vsl 5 x L] false,.cells [A] false] 19 (.ptr 1 0)=some (.vptr [A]):=by
  unfold fz;rw[if_neg (by simp[AV.hf])];simp[AV.hfs,hAh]
 have hz:fz [.cells [.str ver,.vsl 5 x L] false,.cells [A] false] 20 (.func (.func 68) [] [.ptr 0 0,.ptr 1 0])=some (.func (.func 68) [] [.vptr [.str ver,.vsl 5 x L],.vptr [A]]):=by
  unfold fz;rw[if_neg (by simp[AV.hf,AV.hfs])];simp[AV.hfs,AV.hf,h1,h2]
 refine ad.of Tryz.func30 rfl (ab enters Tryz.func30 rfl) (by simp[Tryz.ntmps30]) ?_;show W Tryz.prog 6 0 none _ _ _;refine W.vc (by decide) ?_
 repeat'(first|(simp(disch:=first|omega|(simp only[zL];omega))only[go_sem,seval,hAc,hAi,hAd])|((with_reducible first|apply aj.pure|apply ar.pure);(with_reducible exact hkv);(first|rfl|simp only[go_sem,hLh,hAh])))
 exact kI 2 rfl rfl rfl hz (.refl _)
theorem gq0(K:List OB)(a:OB)(t:List OB):(K++a::t)[K.length]? =some a:=by simp
theorem gq1(K:List OB)(a b:OB)(t:List OB):(K++a::b::t)[K.length+1]? =some b:=by simp[List.getElem?_append]
theorem sq0(K:List OB)(a c:OB)(t:List OB):(K++a::t).set K.length c=K++c::t:=by simp
theorem sq1(K:List OB)(a b c:OB)(t:List OB):(K++a::b::t).set (K.length+1) c=K++a::c::t:=by simp[List.set_append]
theorem lq1(K:List OB)(a:OB):(K++[a]).length=K.length+1:=by simp
theorem Gb(l:Ln):aw l=.agg [.str l.g,.str l.n,.vsl 3 l.x (l.ps.map aD),.str l.v]:=rfl
set_option maxRecDepth 8000 in
theorem BZ (yid:Nat) (c:Cd) (hn:c.ls.length≤1000000) (p:Nat→Bool) (H:List OB) (J:Nat→List OB→Prop) (B:List OB→Prop) (hJ:J 0 H) (hmono: ∀i K M,J i K→J i (K++M))
    (hstep: ∀i l K,c.ls[i]? =some l→J i K→ ∃K',(p i=true∧YFn Tryz.prog yid [dF l,.bool (aV (small l.n)).isSome] K (.ret (.bool true)) K'∧J (i+1) K')∨(p i=false∧YFn Tryz.prog yid [dF l,.bool (aV (small l.n)).isSome] K (.ret (.bool false)) K'∧B K')):
    ba Tryz.prog 68 [.yld yid,.vptr [.str c.ver,.vsl 5 c.x (c.ls.map aw)],.vptr [.vmap (fc.map .str) fW]] H (fun out K=>out=.ret (.tup [])∧(((List.range c.ls.length).all p=true∧J c.ls.length K)∨((List.range c.ls.length).all p=false∧B K))):=by
  obtain⟨ver,fx,ls⟩:=c;simp only at hn hstep ⊢;refine ba.ofX Tryz.func68 rfl (ab enters Tryz.func68 rfl) (by simp[Tryz.ntmps68]) ?_;show W Tryz.prog 34 _ none _ _ _;have hln: ∀K,aI Tryz.prog 22 (.vsl 5 fx (ls.map aw)) K=some (.int .i64 ls.length):=by intro K;simp[aI,Tryz.underlying22]
  refine .vc (by decide) ?_
  repeat'(first|(simp(disch:=first|omega|(simp only[zL];omega))only[go_sem,seval,hln]))
  refine W.loop (X:=Nat) (fun i a=>aC a.T [(0,.yld yid),(2,.vptr [.vmap (fc.map .str) fW]),(10,.vsl 5 fx (ls.map aw)),(11,.int .i64 ls.length),(12,.int .i64 (i:Int))]∧J i a.H∧a.D=[]∧i≤ls.length∧(List.range i).all p=true) (fun i=>ls.length - i) 0 ⟨⟨rfl,rfl,rfl,rfl,rfl,trivial⟩,hJ,rfl,Nat.zero_le _,rfl⟩ ?_;rintro i ⟨T,K,D⟩ ⟨h1,h2,rfl,h4,h5⟩;simp only at h1 h2 h4 h5;refine W.bG _ h1 (.vc (by decide) ?_);by_cases h:i<ls.length
  · obtain⟨l,hl,hdrop⟩:=drop_at h
    have hia: ∀K,ak Tryz.prog 22 (.vsl 5 fx (ls.map aw)) (.int .i64 (i:Int)) K=some (.vptr [.str l.g,.str l.n,.vsl 3 l.x (l.ps.map aD),.str l.v]):=fun K=>rA (v:=aw l) (by simp[hl]) rfl K;have hrg:(List.range (i+1)).all p=p i:=by rw[List.range_succ,List.all_append,h5];simp
    obtain⟨P,hP⟩: ∃P,P=l.ps.map aD:=⟨_,rfl⟩
    obtain⟨A,hA⟩: ∃A,A=AV.vmap (fc.map .str) fW:=⟨_,rfl⟩
    have hld: ∀K,ao Tryz.prog 97 (.vptr [A]) K=some A:=by intro K;rw[hA];simp[ao,Jm,LY,ldA]
    have hlk:=KB (small l.n);have hst:=hstep i l (K++[.cells [.str l.g,.str l.n,.vsl 3 l.x (l.ps.map aD),.str l.v] false,.cells (kdL (aV (small l.n))) false]) hl (hmono _ _ _ h2);have hkl: ∀o:Option Kd,∃a b c,kdL o=[a,b,c]∧a.isC=true∧b.isC=true∧c.isC=true:=by
      intro o;cases o<;>exact⟨_,_,_,rfl,rfl,rfl,rfl⟩
    obtain⟨ka,kb,kc,hk,k1,k2,k3⟩:=hkl (aV (small l.n));rw[dF]at hst;rw[hk]at hlk hst;rw[←hP]at hia hst;rw[←hA]at hlk ⊢;simp only[List.cons_append,List.nil_append]at hst;obtain⟨K',hs⟩:=hst;rcases hs with⟨hp,hy,hJ'⟩|⟨hp,hy,hB⟩
    · repeat'(first|(simp(disch:=first|omega|(simp only[zL];omega))only[go_sem,seval,hia,hld,hlk,k1,k2,k3,gq0,gq1,sq0,sq1,lq1,List.append_assoc])|(guard_target=~ aj _ _ _ _ _ _ _;refine aj.sh hy ?_)|((with_reducible first|apply aj.pure|apply ar.pure);(with_reducible exact ic l.n);(first|rfl|simp only[go_sem])))
      exact⟨i+1,⟨⟨rfl,rfl,rfl,rfl,rfl,trivial⟩,hJ',h,by rw[hrg,hp]⟩,by omega⟩
    · have hno:(List.range ls.length).all p=false:=by
        rw[List.all_eq_false];exact⟨i,List.mem_range.2 h,by simp[hp]⟩
      repeat'(first|(simp(disch:=first|omega|(simp only[zL];omega))only[go_sem,seval,hia,hld,hlk,k1,k2,k3,gq0,gq1,sq0,sq1,lq1,List.append_assoc])|(guard_target=~ aj _ _ _ _ _ _ _;refine aj.sh hy ?_)|((with_reducible first|apply aj.pure|apply ar.pure);(with_reducible exact ic l.n);(first|rfl|simp only[go_sem])))
      exact⟨_,_,⟨rfl,.inr ⟨hno,hB⟩⟩,_,rfl,rfl,_,rfl,rfl⟩
  · have e:i=ls.length:=by omega
    subst e
    repeat'(first|(simp(disch:=first|omega|(simp only[zL];omega))only[go_sem,seval]))
    exact⟨_,_,⟨rfl,.inl ⟨h5,h2⟩⟩,_,rfl,rfl,_,rfl,rfl⟩
def cI(k:Kd)(c:List Val):List Bytes:=k.fs.map fun f=>hdB (bR c f)
set_option maxRecDepth 8000 in
theorem xE(k:Kd)(c:List Val)(hc:c.length=8)(hk:k.fs.length≤8)(hf8:∀f∈k.fs,f<8):ba Tryz.prog 58 [.agg [fsV k,.bool k.parts,.bool k.many],.agg (c.map aF)] [] (eD (cI k c)):=by
 obtain⟨fs,b,m⟩:=k;simp only[fsV,cI]at hk hf8 ⊢;obtain⟨Fv,hF⟩:∃Fv,Fv=fs.map fun f:Nat=>AV.int .i64 (f:Int):=⟨_,rfl⟩
 have hFl:Fv.length=fs.length:=by rw[hF];simp
 have hFh:AV.hfs Fv=true:=by rw[hF,aR,List.all_eq_true];intro v hv;obtain⟨l,_,rfl⟩:=List.mem_map.1 hv;rfl
 rw[←hF];have hb1:=ma;have hlf:∀H,aI Tryz.prog 64 (.vsl 0 true Fv) H=some (.int .i64 fs.length):=by intro H;simp[aI,Tryz.underlying64,hFl]
 have hch:=br c;obtain⟨B,hB⟩:∃B:List OB,B=[.cells [.vsl 0 true Fv,.bool b,.bool m] false,.cells (c.map aF) false]:=⟨_,rfl⟩
 refine ba.of0 Tryz.func58 rfl (ab enters Tryz.func58 rfl) (by simp[Tryz.ntmps58]) ?_;show W Tryz.prog 24 _ none _ _ _;refine .vc (by decide) ?_
 repeat'(first|(simp(disch:=first|omega|(simp only[zL];omega))only[go_sem,seval,hlf]))
 refine W.bc (X:=Nat×Nat×Bool×List Bytes) (fun x=>[(11,.int .i64 (x.1:Int)),(10,.int .i64 (fs.length:Int)),(9,.vsl 0 true Fv),(3,.ptr 1 0),(5,bp 2 0 0 AV.str x.2.1 x.2.2.1 x.2.2.2)]) (fun x=>mem [.cells [.vsl 0 true Fv,.bool b,.bool m] false,.cells (c.map aF) false] AV.str x.2.1 0 x.2.2.1 x.2.2.2)
  (fun x=>x.1≤fs.length∧x.2.2.2=(fs.take x.1).map (fun f=>hdB (bR c f))∧(x.2.2.1=false→x.2.2.2=[])) (fun x=>fs.length - x.1) (0,0,false,[]) ⟨Nat.zero_le _,by simp,fun _=>rfl⟩ ⟨rfl,rfl,rfl,rfl,rfl,trivial⟩ rfl ?_
 rintro⟨i,kk,z,out⟩ ⟨l1,l2,l3⟩;simp only at l1 l2 l3 ⊢;have hol:out.length=i:=by rw[l2];simp;omega
 have hde:deN (bp 2 0 0 AV.str kk z out)=bp 2 0 0 AV.str kk z out:=eC _ _ _ _ _ _ _;refine .vc (by decide) ?_;by_cases h:i<fs.length
 ·obtain⟨f,hf,hfd⟩:=drop_at h
  have hf0:=hf8 f (List.mem_of_getElem? hf);obtain⟨v,hv⟩:∃v,c[f]? =some v:=⟨_,List.getElem?_eq_getElem (by omega)⟩
  have hi1:∀H,ak Tryz.prog 64 (.vsl 0 true Fv) (.int .i64 (i:Int)) H=some (.vptr [.int .i64 (f:Int)]):=fun H=>yy (v:=.int .i64 (f:Int)) (by rw[hF];simp[hf]) rfl H;have hia:∀H,ak Tryz.prog 27 (.ptr 1 0) (.int .i64 (f:Int)) H=some (.ptr 1 f):=iv 1 f hf0;have hld:ao Tryz.prog 25 (.ptr 1 f) (mem [.cells [.vsl 0 true Fv,.bool b,.bool m] false,.cells (c.map aF) false] AV.str kk 0 z out)=some (aF v):=qp _ 1 f c v false (dw (by simp)) hv
  have hap:∀s:Bytes,aE Tryz.prog 25 25 (bp 2 0 0 AV.str kk z out) (.vsl 0 true [.str s]) (mem [.cells [.vsl 0 true Fv,.bool b,.bool m] false,.cells (c.map aF) false] AV.str kk 0 z out)=some (bp 2 0 0 AV.str (if z then kk+1 else kk) true (out++[s]),mem [.cells [.vsl 0 true Fv,.bool b,.bool m] false,.cells (c.map aF) false] AV.str (if z then kk+1 else kk) 0 true (out++[s])):=fun s=>
   iM (wd:=0) (bytes:=16) Tryz.underlying25 gH AV.str (fun _=>rfl) (fun _=>rfl) (by decide) [_,_] kk z out (fun h=>.inl rfl) s true (by omega)
  have hnx:(fs.take (i+1)).map (fun f=>hdB (bR c f))=out++[hdB (bR c f)]:=by rw[List.take_add_one,hf,List.map_append,←l2];rfl
  have hfv:bR c f=v.2:=iU c f v hv;rw[hfv]at hnx;obtain⟨x,l⟩:=v;simp only[aF]at hld hnx;have hln:(AV.vsl 0 x (l.map .str)).hf=true:=by simp[AV.hf,az]
  repeat'(first|(simp(disch:=first|omega|(simp only[zL];omega))only[go_sem,seval,hi1,hia,hld,hb1,hap,hde])|((with_reducible first|apply aj.pure|apply ar.pure);(with_reducible exact Ie x l);(first|rfl|simp only[go_sem,az])))
  exact⟨(i+1,(if z then kk+1 else kk),true,out++[hdB l]),⟨h,by simp only;rw[hnx],fun h=>by cases h⟩,by simp only;omega,⟨rfl,rfl,rfl,rfl,rfl,trivial⟩,rfl⟩
 ·have e:i=fs.length:=by omega
  subst e;rw[List.take_length]at l2
  repeat'(first|(simp(disch:=first|omega|(simp only[zL];omega))only[go_sem,seval,hde]))
  rw[←l2];cases z with
  |false=>
   have h0:=l3 rfl;subst h0;exact⟨_,rfl,.inl ⟨_,rfl,rfl,.inl ⟨rfl,rfl,rfl⟩⟩⟩
  |true=>
   exact⟨_,rfl,.inr ⟨2+kk,0,out.length,0,out.map .str,true,rfl,(by have:=dR (B:=[.cells [.vsl 0 true Fv,.bool b,.bool m] false,.cells (c.map aF) false]) (f:=AV.str) (k:=kk) (j:=0) (L:=out);rw[gU]at this;exact this),az out,.inr ⟨rfl,rfl⟩⟩⟩
theorem sf(k:Kd)(c:List Val)(hc:c.length=8)(hk:k.fs.length≤8)(hf8:∀f∈k.fs,f<8):ad Tryz.prog 58 [.agg [fsV k,.bool k.parts,.bool k.many],.agg (c.map aF)] (.ret (.vsl 0 false ((cI k c).map .str))):=
 (xE k c hc hk hf8).pure (kP (az _) (di _))
theorem xF{F:Nat→Nat→Prop}{w:World}{b:Nat}:∀{l:List Bytes} {o:Nat},VRe F w noμ (l.map .str) 1 b o→∀j s,l[j]? =some s→F b (o+j)∧w.cell? ⟨b,o+j,none⟩=some (.string ⟨s.toArray⟩)
 | [],_,_,j,s,h=>by simp at h
 | x::t,o,h,j,s,hj=>by
  cases h with
  | cons _ _ _ _ _ hs hm ht=>
   cases j with
   |zero=>
    simp at hj;subst hj;cases hm with
    |cons _ V _ _ _ hF hc hV _=>cases hV;exact⟨hF,hc⟩
   |succ j=>
    have:=xF ht j s (by simpa using hj);rw[show o+(j+1)=o+1+j by omega];exact this
theorem xG(x:Bool)(l:List Bytes)(sep:Bytes)(hl:l.length≤1000000)(hj:(Lib.join l sep).length≤140737488355328):ad Tryz.prog 62 [.vsl 0 x (l.map .str),.str sep] (.ret (.str (Lib.join l sep))):=by
 intro F w Vs hF hvs;cases hvs with
 |cons _ V _ _ h1 h2=>
 cases h2 with
 |cons _ V2 _ _ h3 h4=>
 cases h4;cases h3 with
 |str _ hsb=>
 cases h1 with
 |vsl _ _ _ A cap hx hc hb h=>
 have hr:∀w',VR F w' noμ (.str (Lib.join l sep)) (.string ⟨(Lib.join l sep).toArray⟩):=fun w'=>.str _ (by simp[ay];omega);cases l with
 |nil=>
  refine .inl ⟨w,ab enters Tryz.func62 rfl _ _,rfl,(Tryz.strings_Join_none A cap ⟨sep.toArray⟩ w).mono ?_⟩;rintro e w' ⟨rfl,rfl⟩;exact⟨Below.refl _ _,F,fun _ _ h=>h,fun b o h=>hF b o h,fun _ _ _ h=>h,.ret _ _ (hr _)⟩
 | cons u t=>
  cases h with
  | «at» _ _ b o he=>
  have hat:=xF he;have hm:((u::t).map fun s:Bytes=>(⟨s.toArray⟩:ByteArray)).map (·.data.toList)=u::t:=by simp[Function.comp_def]
  have hlen:(((u::t).map AV.str).length)=((u::t).map fun s:Bytes=>(⟨s.toArray⟩:ByteArray)).length:=by simp
  have hcon:=Tryz.strings_Join b o cap ((u::t).map fun s:Bytes=>(⟨s.toArray⟩:ByteArray)) ⟨sep.toArray⟩ w (by
   intro j y hy;rw[List.getElem?_map,Option.map_eq_some_iff]at hy;obtain⟨s,hs,rfl⟩:=hy
   exact(hat j s hs).2) (hF b o (by simpa using(hat 0 u rfl).1)) (by rw[List.length_map];omega) (by rw[←hlen];exact hc) (by rw[hm];exact hj)
  rw[hm]at hcon;refine .inl ⟨w,ab enters Tryz.func62 rfl _ _,rfl,?_⟩;rw[hlen];refine hcon.mono ?_;rintro e w' ⟨rfl,hbl⟩;exact⟨hbl,F,fun _ _ h=>h,fun b o h=>Nat.lt_of_lt_of_le (hF b o h) hbl.size,fun _ _ _ h=>h,.ret _ _ (hr _)⟩
theorem B1(l:List Bytes):Lib.join l []=l.flatten:=by
 induction l with
 |nil=>rfl
 | cons u t ih=>
  cases t with
  |nil=>simp[Lib.join,List.intercalate]
  |cons v t=>
   have:Lib.join (u::v::t) []=u++Lib.join (v::t) []:=by simp[Lib.join,List.intercalate]
   rw[this,ih];rfl
theorem B3(x:Bool)(l:List Bytes)(hl:l.length≤1000000)(hj:l.flatten.length≤140737488355328):ad Tryz.prog 60 [.vsl 0 x (l.map .str)] (.ret (.bool (l.flatten==[]))):=by
 have hjn:=xG x l [] hl (by rw[B1];exact hj);rw[B1]at hjn;obtain⟨b,hb⟩:∃b,b=(l.flatten==[]):=⟨_,rfl⟩
 rw[←hb];refine ad.of Tryz.func60 rfl (ab enters Tryz.func60 rfl) (by simp[Tryz.ntmps60]) ?_;show W Tryz.prog 6 0 none _ _ _;refine W.vc (by decide) ?_
 repeat'(first|(simp(disch:=first|omega|(simp only[zL];omega))only[go_sem,seval])|((with_reducible first|apply aj.pure|apply ar.pure);(with_reducible exact hjn);(first|rfl|simp only[go_sem])))
 exact⟨_,rfl,_,rfl,by rw[hb];exact .refl _⟩
theorem Gc(x:Bool)(l:List Bytes)(s:Bytes):ad Tryz.prog 113 [.str s,.vptr [.vsl 0 x (l.map .str)]] (.ret (.bool (decide (s∈l)))):=by
 have hc:=qt x l s;obtain⟨b,hb⟩:∃b,b=decide (s∈l):=⟨_,rfl⟩
 rw[←hb]at hc ⊢;have hld:∀K,ao Tryz.prog 25 (.vptr [.vsl 0 x (l.map .str)]) K=some (.vsl 0 x (l.map .str)):=by intro K;simp[ao,ph,Ag,ldA]
 refine ad.of Tryz.func113 rfl (ab enters Tryz.func113 rfl) (by simp[Tryz.ntmps113]) ?_;show W Tryz.prog 7 0 none _ _ _;refine W.vc (by decide) ?_
 repeat'(first|(simp(disch:=first|omega|(simp only[zL];omega))only[go_sem,seval,hld])|((with_reducible first|apply aj.pure|apply ar.pure);(with_reducible exact hc);(first|rfl|simp only[go_sem,az])))
 exact⟨_,rfl,_,rfl,.refl _⟩
def dW(ws ps:List Bytes):List Bytes:=ws.map esc++ps.drop ws.length
theorem Ip(ws ps:List Bytes)(i:Nat):(dW ws ps)[i]? =if i<ws.length then ws[i]?.map esc else ps[i]?:=by
 unfold dW;by_cases h:i<ws.length
 ·rw[if_pos h,List.getElem?_append_left (by simpa using h),List.getElem?_map]
 ·rw[if_neg h,List.getElem?_append_right (by simpa using h),List.getElem?_drop,List.length_map]
  congr 1;omega
theorem np(ws ps:List Bytes):(dW ws ps).length=max ws.length ps.length:=by simp[dW];omega
theorem EY(u v:Bytes)(t:List Bytes)(s:Bytes):Lib.join (u::v::t) s=u++(s++Lib.join (v::t) s):=by simp[Lib.join,List.intercalate]
theorem js(m:UInt8):∀(s:Bytes) (b:Bool) (cur:Bytes),bu m b cur s≠ []
 | [],b,cur=>by rw[fU];simp
 |x::t,true,cur=>by rw[bu];exact js m t _ _
 | x::t,false,cur=>by
  rw[bu];split
  ·exact js m t _ _
  ·split
   ·simp
   ·exact js m t _ _
def ew(H:List OB)(d:Nat)(opn:Bool)(c:List Bytes):List OB:=H.set d (.cells (c.map .str) opn)
section
variable{H:List OB} {d:Nat} {opn:Bool}
theorem iW(hd:d<H.length)(c:List Bytes):(ew H d opn c)[d]? =some (.cells (c.map .str) opn):=List.getElem?_set_self hd
theorem iX{l:List Bytes}(h:H[d]? =some (.cells (l.map .str) opn)):ew H d opn l=H:=dJ h
theorem xH(c c':List Bytes):(ew H d opn c).set d (.cells (c'.map .str) opn)=ew H d opn c':=List.set_set _
theorem gz(off n i:Nat)(h:i<n)(M:List OB):ak Tryz.prog 25 (.sl d off n 0) (.int .i64 (i:Int)) M=some (.ptr d (off+i)):=by
 simp[ak,bt,Tryz.underlying25,tz9,h,esz]
theorem mc(hd:d<H.length){c:List Bytes}{i:Nat}{s:Bytes}(h:c[i]? =some s):ao Tryz.prog 9 (.ptr d i) (ew H d opn c)=some (.str s):=by
 simp[ld9,ldC,iW hd,h]
theorem oM(hd:d<H.length){c:List Bytes}{i:Nat}(h:i<c.length)(s:Bytes):aA Tryz.prog 9 (.ptr d i) (.str s) (ew H d opn c)=some (ew H d opn (c.set i s)):=by
 rw[st9];simp only[stC,iW hd];rw[if_pos (by simp[AV.cells,AV.isC];omega)];simp only[AV.cells,cz,←List.map_set,xH]
theorem oN(off n k:Nat)(h:k<n):aM Tryz.prog 25 (.sl d off n 0) (some (.int .i64 (k:Int))) none none=some (.sl d (off+k) (n - k) 0):=by
 simp only[aM,Tryz.underlying25,tz9,bn .i64 k (Nat.le_of_lt h),esz,↓reduceIte];rw[if_pos (by omega),Nat.mul_one]
theorem B4(off n k:Nat)(h:k≤n):aM Tryz.prog 25 (.sl d off n 0) none (some (.int .i64 (k:Int))) none=some (.sl d off k 0):=by
 simp only[aM,Tryz.underlying25,tz9,gl .i64 k h,esz,↓reduceIte];simp
theorem Gd:bS Tryz.prog 9=some (.str []):=by kernel_rfl
theorem xI(hd:d<H.length){c:List Bytes}{k n:Nat}(h:k+n=c.length)(hn:0<n):kr Tryz.prog 25 (.sl d k n 0) (ew H d opn c)=some (.tup [],ew H d opn (c.take k++List.replicate n [])):=by
 simp only[kr,Tryz.underlying25,gH,Gd,iW hd];rw[if_neg (by omega),if_pos ⟨rfl,rfl,by simp[esz];omega⟩];rw[show AV.cells (.str [])=[.str []]from rfl,D7,kO _ _ _ (by simp;omega)];rw[←xH c (c.take k++List.replicate n [])];simp
end
theorem me(a b:Bytes):∀l:List Bytes,comp (l++[a]++[b])=if a=b then comp (l++[a])else comp (l++[a])++[b]
 | []=>by
  simp only[List.nil_append,List.cons_append,comp];split
  ·rename_i h;rw[h]
  ·rfl
 | [x]=>by
  have ih:=me a b [];simp only[List.nil_append,List.cons_append]at ih ⊢;rw[comp,ih];simp only[comp];by_cases h1:x=a<;>by_cases h2:a=b<;>simp[h1,h2]
 |x::y::t=>by
  have ih:=me a b (y::t);simp only[List.cons_append]at ih ⊢;rw[comp,ih,comp];by_cases h1:x=y<;>by_cases h2:a=b<;>simp[h1,h2]
theorem qw{l:List Bytes}{j:Nat}{a b:Bytes}(ha:l[j]? =some a)(hb:l[j+1]? =some b):comp (l.take (j+2))=if a=b then comp (l.take (j+1))else comp (l.take (j+1))++[b]:=by
 have e1:l.take (j+1)=l.take j++[a]:=by rw[List.take_add_one,ha];rfl
 have e2:l.take (j+2)=l.take j++[a]++[b]:=by rw[List.take_add_one,hb,e1];rfl
 rw[e2,e1,me]
theorem oO{l:List Bytes}(h:l.length<2):comp l=l:=by
 match l,h with
 | [],_=>rfl
 | [_],_=>rfl
set_option maxRecDepth 8000 in
theorem KC {H:List OB} {d:Nat} {l:List Bytes} {opn:Bool} (hd:H[d]? =some (.cells (l.map .str) opn)) (hl:l.length≤1000000):
    aY Tryz.prog 32 [.sl d 0 l.length 0] H (.ret (.sl d 0 (comp l).length 0)) (ew H d opn (comp l++List.replicate (l.length - (comp l).length) [])):=by
  refine ba.one ?_;have hdl:=(List.getElem?_eq_some_iff.1 hd).1;have hself:=iX hd;refine ba.ofX Tryz.func32 rfl (ab enters Tryz.func32 rfl) (by simp[Tryz.ntmps32]) ?_;show W Tryz.prog 61 _ none _ _ ⟨aL 0 [.sl d 0 l.length 0],H,[]⟩;have hln: ∀o n M,aI Tryz.prog 25 (.sl d o n 0) M=some (.int .i64 n):=by intro o n M;simp[aI,Tryz.underlying25]
  have hout:comp l=l→ew H d opn (comp l++List.replicate (l.length - (comp l).length) [])=H:=by
    intro e;rw[e,Nat.sub_self];simp[hself]
  by_cases h2:l.length<2
  · have e:=oO h2
    rw[hout e,e];refine .vc (by decide) ?_
    repeat'(first|(simp(disch:=first|omega|(simp only[zL];omega))only[go_sem,seval,hln]))
    exact⟨_,_,⟨rfl,rfl⟩,_,rfl,rfl,_,rfl,rfl⟩
  refine .vc (by decide) ?_
  repeat'(first|(simp(disch:=first|omega|(simp only[zL];omega))only[go_sem,seval,hln]))
  refine W.bc (X:=Nat) (fun i=>[(3,.int .i64 ((i+1:Nat):Int)),(0,.sl d 0 l.length 0)]) (fun _=>H) (fun i=>i+1≤l.length∧comp (l.take (i+1))=l.take (i+1)) (fun i=>l.length - i) 0 ⟨by omega,oO (by simp;omega)⟩ ⟨rfl,rfl,trivial⟩ rfl ?_;rintro i ⟨hi,hc⟩;by_cases h:i+1<l.length
  · obtain ⟨u,hu,_⟩:=drop_at (show i<l.length by omega)
    obtain⟨v,hv,_⟩:=drop_at h;have hia: ∀M,ak Tryz.prog 25 (.sl d 0 l.length 0) (.int .i64 (((i+1:Nat):Int) - 1)) M=some (.ptr d i):=by
      intro M;have:(((i+1:Nat):Int) - 1)=((i:Nat):Int):=by omega
      rw[this,gz 0 _ i (by omega),Nat.zero_add]
    have hib: ∀M,ak Tryz.prog 25 (.sl d 0 l.length 0) (.int .i64 ((i+1:Nat):Int)) M=some (.ptr d (i+1)):=by
      intro M;rw[gz 0 _ (i+1) h,Nat.zero_add]
    have g1:ao Tryz.prog 9 (.ptr d i) H=some (.str u):=by have:=mc (opn:=opn) hdl hu;rwa[hself]at this
    have g2:ao Tryz.prog 9 (.ptr d (i+1)) H=some (.str v):=by have:=mc (opn:=opn) hdl hv;rwa[hself]at this
    have hct:=qw hu hv;cases hq:(v==u)with
    | false=>
      have hne: ¬u=v:=by intro e;simp[e]at hq
      rw[if_neg hne,hc]at hct;refine .vc (by decide) ?_
      repeat'(first|(simp(disch:=first|omega|(simp only[zL];omega))only[go_sem,seval,hln]))
      refine W.bw [] [false,false,false,false,false,false,false,false,false,false] [] mixed (by kernel_rfl) (by kernel_rfl) (by kernel_rfl) ?_
      repeat'(first|(simp(disch:=first|omega|(simp only[zL];omega))only[go_sem,seval,hia,hib,g1,g2,hq]))
      exact⟨i+1,⟨h,by rw[hct,List.take_add_one (i:=i+1),hv];rfl⟩,by omega,⟨rfl,rfl,trivial⟩⟩
    | true =>
      have hve:u=v:=by have:=of_decide_eq_true (by simpa using hq:decide (v=u)=true);exact this.symm
      rw[if_pos hve,hc]at hct;have hfr:=oN (d:=d) 0 l.length (i+1) h;rw[Nat.zero_add]at hfr;refine .vc (by decide) ?_
      repeat'(first|(simp(disch:=first|omega|(simp only[zL];omega))only[go_sem,seval,hln]))
      refine W.bw [] [false,false,false,false,false,false,false,false,false,false] [] mixed (by kernel_rfl) (by kernel_rfl) (by kernel_rfl) ?_
      repeat'(first|(simp(disch:=first|omega|(simp only[zL];omega))only[go_sem,seval,hia,hib,g1,g2,hq,hfr]))
      obtain⟨p,hp⟩: ∃p,p=i+1:=⟨_,rfl⟩
      rw[←hp]at h hc hct ⊢;rw[show i+2=p+1 by omega]at hct
      refine W.bc (X:=Nat×Nat×List Bytes) (fun y=>[(5,.int .i64 ((y.1+1:Nat):Int)),(3,.int .i64 (y.2.1:Int)),(4,.sl d p (l.length - p) 0),(0,.sl d 0 l.length 0)]) (fun y=>ew H d opn y.2.2)
        (fun y=>y.2.2.length=l.length∧p+y.1+1≤l.length∧y.2.1≤p+y.1∧y.2.2.take y.2.1=comp (l.take (p+y.1+1))∧y.2.2.drop (p+y.1)=l.drop (p+y.1)) (fun y=>l.length - y.1) (0,p,l) ⟨rfl,h,Nat.le_refl _,hct.symm,rfl⟩ ⟨rfl,rfl,rfl,rfl,trivial⟩ hself.symm ?_
      rintro⟨j,k,c⟩ ⟨k1,k2,k3,k4,k5⟩;simp only at k1 k2 k3 k4 k5 ⊢;by_cases h3:p+j+1<l.length
      · obtain⟨a,ha,ha2⟩:=drop_at (show p+j<l.length by omega)
        obtain⟨b,hb,hb2⟩:=drop_at h3;have ca:c[p+j]? =some a:=by have:=congrArg (·[0]?) k5;simpa[List.getElem?_drop,ha]using this
        have cb:c[p+j+1]? =some b:=by have:=congrArg (·[1]?) k5;simpa[List.getElem?_drop,hb]using this
        have hja: ∀M,ak Tryz.prog 25 (.sl d p (l.length - p) 0) (.int .i64 (((j+1:Nat):Int) - 1)) M=some (.ptr d (p+j)):=by
          intro M;have:(((j+1:Nat):Int) - 1)=((j:Nat):Int):=by omega
          rw[this,gz p _ j (by omega)]
        have hjb: ∀M,ak Tryz.prog 25 (.sl d p (l.length - p) 0) (.int .i64 ((j+1:Nat):Int)) M=some (.ptr d (p+j+1)):=by
          intro M;rw[gz p _ (j+1) (by omega)];rfl
        have hk0: ∀M,ak Tryz.prog 25 (.sl d 0 l.length 0) (.int .i64 (k:Int)) M=some (.ptr d k):=by
          intro M;rw[gz 0 _ k (by omega),Nat.zero_add]
        have g3:=mc (opn:=opn) hdl ca;have g4:=mc (opn:=opn) hdl cb;have g5:=oM (opn:=opn) hdl (c:=c) (i:=k) (by omega) b;have hct2:=qw ha hb;cases hq2:(b==a)with
        | true=>
          have hab:a=b:=by have:=of_decide_eq_true (by simpa using hq2:decide (b=a)=true);exact this.symm
          rw[if_pos hab]at hct2;refine .vc (by decide) ?_
          repeat'(first|(simp(disch:=first|omega|(simp only[zL];omega))only[go_sem,seval,hln]))
          refine W.bw [] [false,false,false,false,false,false,false,false,false,false] [] mixed (by kernel_rfl) (by kernel_rfl) (by kernel_rfl) ?_
          repeat'(first|(simp(disch:=first|omega|(simp only[zL];omega))only[go_sem,seval,hja,hjb,g3,g4,hq2]))
          exact⟨(j+1,k,c),⟨k1,by simp only;omega,by simp only;omega,by simp only;rw[k4,show p+(j+1)+1=p+j+2 by omega,hct2],by simp only;rw[show p+(j+1)=p+j+1 by omega,←List.drop_drop,k5,List.drop_drop]⟩,by simp only;omega,⟨rfl,rfl,rfl,rfl,trivial⟩,rfl⟩
        | false=>
          have hab: ¬a=b:=by intro e;simp[e]at hq2
          rw[if_neg hab]at hct2;refine .vc (by decide) ?_
          repeat'(first|(simp(disch:=first|omega|(simp only[zL];omega))only[go_sem,seval,hln]))
          refine W.bw [] [false,false,false,false,false,false,false,false,false,false] [] mixed (by kernel_rfl) (by kernel_rfl) (by kernel_rfl) ?_
          repeat'(first|(simp(disch:=first|omega|(simp only[zL];omega))only[go_sem,seval,hja,hjb,g3,g4,hq2,hk0,g5]))
          refine⟨(j+1,k+1,c.set k b),⟨by simpa using k1,by simp only;omega,by simp only;omega,?_,?_⟩,by simp only;omega,⟨rfl,rfl,rfl,rfl,trivial⟩,rfl⟩
          · simp only
            rw[show p+(j+1)+1=p+j+2 by omega,hct2,←k4,List.take_add_one,List.getElem?_set_self (by omega),List.take_set_of_le (Nat.le_refl _)];rfl
          · simp only
            rw[show p+(j+1)=p+j+1 by omega,List.drop_set_of_lt (by omega),←List.drop_drop,k5,List.drop_drop]
      · have e:p+j+1=l.length:=by omega
        have hcl:c.take k=comp l:=by rw[k4,e,List.take_length]
        have hkl:(comp l).length=k:=by rw[←hcl];simp;omega
        have s1:=oN (d:=d) 0 l.length k (by omega);rw[Nat.zero_add]at s1;have s2:=B4 (d:=d) 0 l.length k (by omega);have s3:=xI (opn:=opn) hdl (c:=c) (k:=k) (n:=l.length - k) (by omega) (by omega);rw[hkl,←hcl];refine .vc (by decide) ?_
        repeat'(first|(simp(disch:=first|omega|(simp only[zL];omega))only[go_sem,seval,hln,s1,s2,s3]))
        exact⟨_,_,⟨rfl,rfl⟩,_,rfl,rfl,_,rfl,rfl⟩
  · have e:i+1=l.length:=by omega
    rw[e,List.take_length]at hc;rw[hout hc,hc];refine .vc (by decide) ?_
    repeat'(first|(simp(disch:=first|omega|(simp only[zL];omega))only[go_sem,seval,hln]))
    exact⟨_,_,⟨rfl,rfl⟩,_,rfl,rfl,_,rfl,rfl⟩
theorem tY:sQ Tryz.prog Tryz.f32 (fY Tryz.prog (du Tryz.prog pC 40) pC.pm Tryz.f32.ntmps false pC.fuel (Tryz.f32.body.getD .skip) ⟨aL 0 [.vsl 0 true []],[],[]⟩)=some (.ret (.vsl 0 true [])):=by kernel_rfl
theorem EZ:ad Tryz.prog 32 [.vsl 0 true []] (.ret (.vsl 0 true [])):=ad.run rZ 40 Tryz.func32 rfl (by simp[Tryz.ntmps32]) tY
def iy(H:List OB)(v:AV)(l:List Bytes):Prop:=(l=[]∧(v=.nilsl∨v=.vsl 0 true []))∨∃d,v=.sl d 0 l.length 0∧H[d]? =some (.cells (l.map .str) true)
structure bL (H:List OB) (b:Nat) (vs:List AV) (xs:Nat→List Bytes):Prop where
 blk:H[b]? =some (.cells vs false)
 len:vs.length=8
 own:∀(f:Nat) (v:AV),vs[f]? =some v→iy H v (xs f)
 apart:∀(f g d n m:Nat),f≠g→vs[f]? =some (AV.sl d 0 n 0)→vs[g]? ≠some (AV.sl d 0 m 0)
def ke(vs:List AV)(i:Nat):Prop:=∀(f n:Nat),vs[f]? ≠some (AV.sl i 0 n 0)
def ll(xs:Nat→List Bytes)(f:Nat)(l:List Bytes):Nat→List Bytes:=fun g=>if g=f then l else xs g
theorem yR(xs:Nat→List Bytes)(f:Nat)(l:List Bytes):ll xs f l f=l:=if_pos rfl
theorem E0(xs:Nat→List Bytes){f g:Nat}(l:List Bytes)(h:g≠f):ll xs f l g=xs g:=if_neg h
theorem bL.free{H:List OB}{b:Nat}{vs:List AV}{xs:Nat→List Bytes}(h:bL H b vs xs){i:Nat}{o:OB}(hi:H[i]? =some o)(ho:∀cs,o≠ .cells cs true):ke vs i:=by
 intro f n hf;rcases h.own f _ hf with⟨_,h1|h1⟩|⟨d,h1,h2⟩
 ·cases h1
 ·cases h1
 ·cases h1
  rw[hi]at h2;exact ho _ (Option.some.inj h2)
theorem bL.fresh{H:List OB}{b:Nat}{vs:List AV}{xs:Nat→List Bytes}(h:bL H b vs xs){i:Nat}(hi:H.length≤i):ke vs i:=by
 intro f n hf;rcases h.own f _ hf with⟨_,h1|h1⟩|⟨d,h1,h2⟩
 ·cases h1
 ·cases h1
 ·cases h1
  have:=(List.getElem?_eq_some_iff.1 h2).1;omega
theorem iy.fE{H K:List OB}{v:AV}{l:List Bytes}(h:iy H v l)(hk:∀d n,v=.sl d 0 n 0→K[d]? =H[d]?):iy K v l:=by
 rcases h with h|⟨d,h1,h2⟩
 ·exact .inl h
 ·exact .inr ⟨d,h1,by rw[hk d _ h1];exact h2⟩
theorem bL.fE{H K:List OB}{b:Nat}{vs:List AV}{xs:Nat→List Bytes}(h:bL H b vs xs)(hb:K[b]? =H[b]?)(hk:∀d,¬ke vs d→K[d]? =H[d]?):bL K b vs xs:=
 ⟨by rw[hb];exact h.blk,h.len,fun f v hv=>(h.own f v hv).fE fun d n e=>hk d fun hf=>hf f n (by rw[hv,e]),h.apart⟩
theorem bL.set{H:List OB}{b:Nat}{vs:List AV}{xs:Nat→List Bytes}(h:bL H b vs xs){i:Nat}(o:OB)(hi:i≠b)(hf:ke vs i):bL (H.set i o) b vs xs:=
 h.fE (by rw[List.getElem?_set_ne hi]) fun d hd=>by rw[List.getElem?_set_ne (by rintro rfl;exact hd hf)]
theorem bL.more{H:List OB}{b:Nat}{vs:List AV}{xs:Nat→List Bytes}(h:bL H b vs xs)(E:List OB):bL (H++E) b vs xs:=
 h.fE (by rw[List.getElem?_append_left (List.getElem?_eq_some_iff.1 h.blk).1]) fun d hd=>by
  by_cases hl:d<H.length
  ·rw[List.getElem?_append_left hl]
  ·exact(hd (h.fresh (by omega))).elim
theorem bL.slot{H:List OB}{b:Nat}{vs:List AV}{xs:Nat→List Bytes}(h:bL H b vs xs){f:Nat}(hf:f<8):∃v,vs[f]? =some v∧ao Tryz.prog 25 (.ptr b f) H=some v∧iy H v (xs f):=by
 obtain⟨v,hv⟩:∃v,vs[f]? =some v:=⟨_,List.getElem?_eq_getElem (by rw[h.len];exact hf)⟩
 exact⟨v,hv,by simp[yo,ldC,h.blk,hv],h.own f v hv⟩
theorem bL.put {H:List OB} {b:Nat} {vs:List AV} {xs:Nat→List Bytes} {f:Nat} {v:AV} {l:List Bytes} (hb:H[b]? =some (.cells vs false)) (hl:vs.length=8) (hf:f<8) (ho: ∀(g:Nat) (v:AV),g≠f→vs[g]? =some v→iy H v (xs g)) (ha: ∀(f' g d n m:Nat),f'≠f→g≠f→f'≠g→vs[f']? =some (AV.sl d 0 n 0)→vs[g]? ≠some (AV.sl d 0 m 0))
    (hv:iy H v l) (hn: ∀(g d n m:Nat),g≠f→v=.sl d 0 n 0→vs[g]? ≠some (AV.sl d 0 m 0)) (hbo: ∀n:Nat,v≠AV.sl b 0 n 0) (hbg: ∀(g n:Nat),g≠f→vs[g]? ≠some (AV.sl b 0 n 0)):
    aA Tryz.prog 25 (.ptr b f) v H=some (H.set b (.cells (vs.set f v) false))∧bL (H.set b (.cells (vs.set f v) false)) b (vs.set f v) (ll xs f l):=by
  have hcell:v.cells=[v]∧v.isC=true:=by
    rcases hv with⟨_,rfl|rfl⟩|⟨d,rfl,_⟩<;>exact⟨rfl,rfl⟩
  have hlb:=(List.getElem?_eq_some_iff.1 hb).1;refine⟨?_,⟨by rw[List.getElem?_set_self hlb],by simpa using hl,?_,?_⟩⟩
  · rw[Dc]
    simp only[stC,hb,hcell.1];rw[if_pos ⟨rfl,by omega,by simp[hcell.2]⟩];rfl
  · intro g u hu
    by_cases hg:g=f
    · subst hg
      rw[List.getElem?_set_self (by omega)]at hu;cases hu;rw[yR];exact hv.fE fun d n e=>by rw[List.getElem?_set_ne (by rintro rfl;exact hbo n e)]
    · rw[List.getElem?_set_ne (by omega)]at hu
      rw[E0 _ _ hg];exact(ho g u hg hu).fE fun d n e=>by rw[List.getElem?_set_ne (by rintro rfl;exact hbg g n hg (by rw[hu,e]))]
  · intro f' g d n m hfg h1 h2
    by_cases e1:f'=f
    · subst e1
      rw[List.getElem?_set_self (by omega)]at h1;rw[List.getElem?_set_ne (by omega)]at h2;exact hn g d n m (by omega) (Option.some.inj h1) h2
    · rw[List.getElem?_set_ne (by omega)]at h1
      by_cases e2:g=f
      · subst e2
        rw[List.getElem?_set_self (by omega)]at h2;exact hn f' d m n e1 (Option.some.inj h2) h1
      · rw[List.getElem?_set_ne (by omega)]at h2
        exact ha f' g d n m e1 e2 hfg h1 h2
theorem bL.sg{H:List OB}{b:Nat}{vs:List AV}{xs:Nat→List Bytes}(h:bL H b vs xs):ke vs b:=h.free h.blk (fun cs e=>by cases e)
theorem bL.app{H:List OB}{b:Nat}{vs:List AV}{xs:Nat→List Bytes}(h:bL H b vs xs){f:Nat}(hf:f<8)(s:Bytes)(hl:(xs f).length<1000000):
    ∃ v M,vs[f]? =some v∧ao Tryz.prog 25 (.ptr b f) H=some v∧aE Tryz.prog 25 25 (deN v) (.vsl 0 true [.str s]) H=some (.sl H.length 0 ((xs f).length+1) 0,M)∧
      aA Tryz.prog 25 (.ptr b f) (.sl H.length 0 ((xs f).length+1) 0) M=some (M.set b (.cells (vs.set f (.sl H.length 0 ((xs f).length+1) 0)) false))∧
      bL (M.set b (.cells (vs.set f (.sl H.length 0 ((xs f).length+1) 0)) false)) b (vs.set f (.sl H.length 0 ((xs f).length+1) 0)) (ll xs f (xs f++[s]))∧M.length=H.length+1∧ ∀i,i<H.length→ke vs i→M[i]? =H[i]? :=by
  obtain⟨v,hv,hld,ho⟩:=h.slot hf;have hs:nT 0 AV.str H (deN v) (xs f):=by
    rcases ho with⟨e,rfl|rfl⟩|⟨d,rfl,hd⟩
    · exact .inl ⟨e,0,rfl⟩
    · exact .inl ⟨e,0,rfl⟩
    · exact .inr ⟨d,rfl,by rw[gU];exact hd⟩
  obtain⟨M,hap,hlen,hnew,hold⟩:=kJ (P:=Tryz.prog) (sT:=25) (wd:=0) (bytes:=16) Tryz.underlying25 gH AV.str (fun _=>rfl) (fun _=>rfl) (by decide) hs s true (by omega);rw[gU]at hnew;have hfree: ∀i,i<H.length→(∀n,v≠ .sl i 0 n 0)→M[i]? =H[i]? :=by
    intro i hi hn;refine hold i hi fun e=> ?_;rcases ho with⟨_,rfl|rfl⟩|⟨d,rfl,hd⟩
    · cases e
    · cases e
    · exact hn _ e
  have hb1:M[b]? =some (.cells vs false):=by
    rw[hfree b (List.getElem?_eq_some_iff.1 h.blk).1 fun n e=>h.sg f n (by rw[hv,e])];exact h.blk
  have hold2: ∀(g:Nat) (u:AV),g≠f→vs[g]? =some u→iy M u (xs g):=fun g u hg hu=>(h.own g u hu).fE fun d n e=>by
    refine hfree d ?_ fun m e2=> ?_
    · rcases h.own g u hu with⟨_,e3|e3⟩|⟨d',e3,h3⟩
      · rw[e]at e3;cases e3
      · rw[e]at e3;cases e3
      · rw[e]at e3;cases e3;exact(List.getElem?_eq_some_iff.1 h3).1
    · exact h.apart g f d n m hg (by rw[hu,e]) (by rw[hv,e2])
  obtain⟨q1,q2⟩:=bL.put (H:=M) (b:=b) (vs:=vs) (xs:=xs) (f:=f) (v:=.sl H.length 0 ((xs f).length+1) 0) (l:=xs f++[s]) hb1 h.len hf hold2 (fun f' g d n m h1 h2 h3=>h.apart f' g d n m h3)
    (.inr ⟨H.length,by simp,hnew⟩) (fun g d n m hg e=>by cases e;exact h.fresh (Nat.le_refl _) g m) (fun n e=>by have:=(List.getElem?_eq_some_iff.1 h.blk).1;cases e;omega) (fun g n hg=>h.sg g n)
  exact⟨v,M,hv,hld,hap,q1,q2,hlen,fun i hi hfr=>hfree i hi fun n e=>hfr f n (by rw[hv,e])⟩
theorem iy.fz{H:List OB}{v:AV}{l:List Bytes}{k:Nat}(h:iy H v l):∃u,fz H (k+1) v=some u∧Le u (.vsl 0 false (l.map .str)):=by
 rcases h with⟨rfl,rfl|rfl⟩|⟨d,rfl,hd⟩
 ·exact⟨_,rfl,.nils _ _⟩
 ·exact⟨_,rfl,.nil _ _ _⟩
 ·refine⟨.vsl 0 false (l.map .str),?_,.refl _⟩
  have e:(l.map AV.str).take l.length=l.map .str:=List.take_of_length_le (by simp);have:=lL (k:=k) (off:=0) (len:=l.length) hd (by simp) (by rw[List.drop_zero,e];exact az l) (by rw[List.drop_zero,e];exact di l);rwa[List.drop_zero,e]at this
def bo(xs:Nat→List Bytes):List Val:=(List.range 8).map fun f=>(false,xs f)
theorem ck(xs:Nat→List Bytes):(bo xs).length=8:=by simp[bo]
theorem qx(xs:Nat→List Bytes){f:Nat}(hf:f<8):bR (bo xs) f=xs f:=by simp[bR,bo,List.getD,hf]
theorem yS{xs ys:Nat→List Bytes}(h:∀f,f<8→xs f=ys f):bo xs=bo ys:=by
 refine List.map_congr_left fun f hf=>?_;rw[h f (List.mem_range.1 hf)]
theorem xJ{H:List OB}{k:Nat}(xs:Nat→List Bytes):∀(vs:List AV) (o:Nat),(∀(f:Nat) (v:AV),vs[f]? =some v→iy H v (xs (o+f)))→∃us,vs.mapM (fz H (k+1))=some us∧Les us ((List.range' o vs.length).map fun f=>AV.vsl 0 false ((xs f).map .str))
 | [],o,h=>⟨[],rfl,.nil⟩
 |v::vs,o,h=>by
  obtain⟨u,h1,h2⟩:=(h 0 v rfl).fz (k:=k);obtain⟨us,h3,h4⟩:=xJ (k:=k) xs vs (o+1) fun f v hv=>by have:=h (f+1) v (by simpa using hv);rwa[show o+(f+1)=o+1+f by omega]at this
  exact⟨u::us,by simp[List.mapM_cons,h1,h3],.cons _ _ _ _ (by simpa using h2) (by simpa[List.range'_succ]using h4)⟩
theorem bL.fz{H:List OB}{b:Nat}{vs:List AV}{xs:Nat→List Bytes}{k:Nat}(h:bL H b vs xs):∃us,fz H (k+2) (.agg vs)=some (.agg us)∧Les us ((bo xs).map aF):=by
 obtain⟨us,h1,h2⟩:=xJ (k:=k) xs vs 0 fun f v hv=>by rw[Nat.zero_add];exact h.own f v hv
 rw[h.len,←List.range_eq_range']at h2;have h2':Les us ((bo xs).map aF):=by rw[bo,List.map_map];exact h2
 by_cases hh:AV.hfs vs=true
 ·refine⟨vs,dj (by simpa[AV.hf]using hh),?_⟩
  have:vs.mapM (Go.Av.fz H (k+1))=some vs:=by
   have:∀l:List AV,AV.hfs l=true→l.mapM (Go.Av.fz H (k+1))=some l:=by
    intro l;induction l with
    |nil=>intro _;rfl
    |cons a l ih=>
     intro hl;simp only[AV.hfs,Bool.and_eq_true]at hl;simp[List.mapM_cons,dj hl.1,ih hl.2]
   exact this vs hh
  rw[this]at h1;cases h1;exact h2'
 ·refine⟨us,?_,h2'⟩
  have:AV.hf (.agg vs)=false:=by simpa[AV.hf]using hh
  unfold Go.Av.fz;rw[this];simp only[Bool.false_eq_true,if_false,hh];rw[h1];rfl
theorem bL.ld{H:List OB}{b:Nat}{vs:List AV}{xs:Nat→List Bytes}(h:bL H b vs xs):ao Tryz.prog 27 (.ptr b 0) H=some (.agg vs):=by
 simp[pj,ldG,h.blk,h.len];exact List.take_of_length_le (by rw[h.len];exact Nat.le_refl _)
theorem KD:bS Tryz.prog 27=some (.agg [.nilsl,.nilsl,.nilsl,.nilsl,.nilsl,.nilsl,.nilsl,.nilsl]):=by kernel_rfl
def bX:List AV:=[.nilsl,.nilsl,.nilsl,.nilsl,.nilsl,.nilsl,.nilsl,.nilsl]
theorem bL.none{H:List OB}{b:Nat}(h:H[b]? =some (.cells bX false)):bL H b bX (fun _=>[]):=by
 refine⟨h,rfl,fun f v hv=>.inl ⟨rfl,.inl ?_⟩,fun f g d n m hfg h1=>?_⟩
 ·have:=List.mem_of_getElem? hv
  simpa[bX]using this
 ·have:=List.mem_of_getElem? h1
  simp[bX]at this
theorem KE:au Tryz.prog 25 0 []=some (.vsl 0 true []):=by simp[au,Tryz.underlying25,gH]
theorem nkT:bC Tryz.prog 25=1:=by kernel_rfl
theorem nkP:bC Tryz.prog 44=1:=by kernel_rfl
theorem KF(t wd:Nat)(x:Bool)(a:AV)(l:List AV)(hk:bC Tryz.prog t=1)(p q:Nat):dB Tryz.prog .eql t (.vsl wd x (a::l)) (.const (.slice none p q))=some (.bool false):=by simp[dB,hk]
theorem KG(t wd:Nat)(x:Bool)(l:List AV)(w:AV)(o:BinOp):aH Tryz.prog o t (.vsl wd x l) w=none:=by cases o<;>rfl
theorem KH(t wd:Nat)(x:Bool)(l:List AV)(w:AV)(o:BinOp):bM Tryz.prog o t (.vsl wd x l) w=none:=by cases o<;>simp[bM]
set_option maxRecDepth 8000 in
theorem Iq(x:Bool)(l:List Bytes)(hL:l.length≤1000000):ba Tryz.prog 112 [.vsl 0 x (l.map .str)] [] (eD l):=by
 refine ba.of0 Tryz.func112 rfl (ab enters Tryz.func112 rfl) (by simp[Tryz.ntmps112]) ?_;show W Tryz.prog 8 _ none _ _ _;refine .vc (by decide) ?_;cases l with
 | nil=>
  have h0:=nj [] (.vsl 0 x []) (fV [] x []);simp only[List.map_nil]
  repeat'(first|(simp(disch:=first|omega|(simp only[zL];omega))only[go_sem,seval,VA]))
  rintro(_|_)
  ·repeat'(first|(simp(disch:=first|omega|(simp only[zL];omega))only[go_sem,seval,KE,h0]))
   exact⟨_,rfl,.inl ⟨_,rfl,rfl,.inl ⟨rfl,rfl,rfl⟩⟩⟩
  ·repeat'(first|(simp(disch:=first|omega|(simp only[zL];omega))only[go_sem,seval]))
   exact⟨_,rfl,.inl ⟨_,rfl,rfl,.inl ⟨rfl,rfl,rfl⟩⟩⟩
 |cons a l=>
  have hn:=oK [] (.vsl 0 x ((a::l).map .str)) (a::l) (fV [] x (a::l)) hL (by simp);have e1:=KF 25 0 x (.str a) (l.map .str) nkT 0 0;simp only[List.map_cons]at hn ⊢
  repeat'(first|(simp(disch:=first|omega|(simp only[zL];omega))only[go_sem,seval,e1,KG,KH,KE,hn]))
  exact⟨_,rfl,.inr ⟨0,0,(a::l).length,0,(a::l).map .str,true,rfl,rfl,az _,.inr ⟨rfl,rfl⟩⟩⟩
def dN(l am:List Bytes):List Bytes:=l.filter fun s=>!decide (s∈am)
abbrev tZ(b:Nat):AV:=.func (.func 113) [] [.ptr b 0]
abbrev Ir(x:Bool)(am:List Bytes):AV:=.func (.func 113) [] [.vptr [.vsl 0 x (am.map .str)]]
def pM(am:List Bytes)(v:AV):Bool:=match v with| .str s=>decide (s∈am)|_=>false
theorem xK(am:List Bytes):∀(l:List Bytes) (i:Nat),(fI (pM am) i (l.map .str)= -1∧dN l am=l)∨∃k,k<l.length∧fI (pM am) i (l.map .str)=((i+k:Nat):Int)∧dN (l.take (k+1)) am=l.take k
 | [],i=>.inl ⟨rfl,rfl⟩
 | s::l,i=>by
  rw[List.map_cons,fI];by_cases h:s∈am
  ·rw[if_pos (by simp[pM,h])]
   exact .inr ⟨0,by simp,by simp,by simp[dN,h]⟩
  ·rw[if_neg (by simp[pM,h])]
   rcases xK am l (i+1)with⟨e,hm⟩|⟨k,hk,e,hm⟩
   ·refine .inl ⟨by simpa using e,?_⟩
    simp[dN,h]at hm ⊢;exact hm
   ·refine .inr ⟨k+1,by simp;omega,?_,?_⟩
    ·rw[e];congr 1;omega
    ·simp[dN,h]at hm ⊢
     exact hm
theorem vR{l am:List Bytes}{j:Nat}{s:Bytes}(h:l[j]? =some s):dN (l.take (j+1)) am=if s∈am then dN (l.take j) am else dN (l.take j) am++[s]:=by
 rw[List.take_add_one,h];simp only[dN,List.filter_append,Option.toList_some,List.filter_cons,List.filter_nil];split<;>simp_all
theorem qy(l am:List Bytes):(dN l am).length≤l.length:=List.length_filter_le _ _
theorem B5{H:List OB}{b k:Nat}{x:Bool}{am:List Bytes}(hb:H[b]? =some (.cells [.vsl 0 x (am.map .str)] false)):fz H (k+2) (tZ b)=some (Ir x am):=by
 have hc:AV.hf (.vsl 0 x (am.map .str))=true:=by simp[AV.hf,az]
 have hp:fz H (k+1) (.ptr b 0)=some (.vptr [.vsl 0 x (am.map .str)]):=by
  unfold fz;rw[if_neg (by simp[AV.hf])];simp[hb,AV.hfs,hc]
 unfold fz;rw[if_neg (by simp[AV.hf,AV.hfs])];simp[AV.hfs,AV.hf,hp]
theorem iY{H:List OB}{d k n:Nat}{c:List Bytes}{o:Bool}(hd:H[d]? =some (.cells (c.map .str) o))(hn:n≤c.length):fz H (k+1) (.sl d 0 n 0)=some (.vsl 0 false ((c.take n).map .str)):=by
 have:=lL (k:=k) (off:=0) (len:=n) hd (by simpa using hn) (by rw[List.drop_zero,←List.map_take];exact az _) (by rw[List.drop_zero,←List.map_take];exact di _);rwa[List.drop_zero,←List.map_take]at this
set_option maxRecDepth 8000 in
theorem MJ {H:List OB} {d b:Nat} {l am:List Bytes} {x:Bool} (hd:H[d]? =some (.cells (l.map .str) true)) (hb:H[b]? =some (.cells [.vsl 0 x (am.map .str)] false)) (hl:l.length≤1000000):
    aY Tryz.prog 111 [.sl d 0 l.length 0,tZ b] H (.ret (.sl d 0 (dN l am).length 0)) (ew H d true (dN l am++List.replicate (l.length - (dN l am).length) [])):=by
  refine ba.one ?_;have hdl:=(List.getElem?_eq_some_iff.1 hd).1;have hself:=iX hd;have hdb:b≠d:=by rintro rfl;injection(Option.some.inj (hd.symm.trans hb))with _ h;cases h
  have hbR: ∀c,(ew H d true c)[b]? =some (.cells [.vsl 0 x (am.map .str)] false):=fun c=>by rw[ew,List.getElem?_set_ne (by omega)];exact hb
  refine ba.ofX Tryz.func111 rfl (ab enters Tryz.func111 rfl) (by simp[Tryz.ntmps111]) ?_;show W Tryz.prog 42 _ none _ _ ⟨aL 0 [.sl d 0 l.length 0,tZ b],H,[]⟩;have hln: ∀o n M,aI Tryz.prog 25 (.sl d o n 0) M=some (.int .i64 n):=by intro o n M;simp[aI,Tryz.underlying25]
  have hix:=HV false (l.map .str) 113 [] [.vptr [.vsl 0 x (am.map .str)]] (pM am) (fun v hv=>by obtain⟨s,_,rfl⟩:=List.mem_map.1 hv;rfl) ⟨az l,rfl,by simp[AV.hfs,AV.hf,az]⟩
    (fun v hv=>by obtain⟨s,_,rfl⟩:=List.mem_map.1 hv;exact Gc x am s)
  have hle:aG H [.sl d 0 l.length 0,tZ b] (.ret (.int .i64 (fI (pM am) 0 (l.map .str))))=some [.vsl 0 false (l.map .str),Ir x am]:=by
    refine ed rfl rfl ?_;have:=iY (k:=19) hd (Nat.le_refl _);rw[List.take_length]at this;simp only[List.mapM_cons,List.mapM_nil,this,B5 (k:=18) hb];rfl
  rcases xK am l 0 with⟨e,hm⟩|⟨k,hk,e,hm⟩
  · rw[e]at hix hle
    rw[hm,Nat.sub_self,List.replicate_zero,List.append_nil,hself];refine .vc (by decide) ?_
    repeat'(first|(simp(disch:=first|omega|(simp only[zL];omega))only[go_sem,seval])|(guard_target=~ aj _ _ _ _ _ _ _;refine aj.aG _ hix hle ?_))
    exact⟨_,_,⟨rfl,rfl⟩,_,rfl,rfl,_,rfl,rfl⟩
  · rw [Nat.zero_add]at e
    rw[e]at hix hle;have hk1:((k:Int)== -1)=false:=by simp
    refine .vc (by decide) ?_
    repeat'(first|(simp(disch:=first|omega|(simp only[zL];omega))only[go_sem,seval,hk1])|(guard_target=~ aj _ _ _ _ _ _ _;refine aj.aG _ hix hle ?_))
    refine W.bc (X:=Nat×Nat×List Bytes) (fun y=>[(6,.int .i64 (y.1:Int)),(5,.int .i64 (y.2.1:Int)),(0,.sl d 0 l.length 0),(1,tZ b)]) (fun y=>ew H d true y.2.2)
      (fun y=>y.2.2.length=l.length∧y.2.1<y.1∧y.1≤l.length∧y.2.2.take y.2.1=dN (l.take y.1) am∧y.2.2.drop y.1=l.drop y.1) (fun y=>l.length - y.1) (k+1,k,l) ⟨rfl,Nat.lt_succ_self _,hk,hm.symm,rfl⟩ ⟨rfl,rfl,rfl,rfl,trivial⟩ hself.symm ?_
    rintro⟨j,i,c⟩ ⟨k1,k2,k3,k4,k5⟩;simp only at k1 k2 k3 k4 k5 ⊢;by_cases h:j<l.length
    · obtain⟨s,hs,_⟩:=drop_at h
      have cs:c[j]? =some s:=by have:=congrArg (·[0]?) k5;simpa[List.getElem?_drop,hs]using this
      have hj: ∀M,ak Tryz.prog 25 (.sl d 0 l.length 0) (.int .i64 (j:Int)) M=some (.ptr d j):=by
        intro M;rw[gz 0 _ j h,Nat.zero_add]
      have hi: ∀M,ak Tryz.prog 25 (.sl d 0 l.length 0) (.int .i64 (i:Int)) M=some (.ptr d i):=by
        intro M;rw[gz 0 _ i (by omega),Nat.zero_add]
      have g1:=mc (opn:=true) hdl cs;have g2:=oM (opn:=true) hdl (c:=c) (i:=i) (by omega) s;have hmt:=vR (am:=am) hs;have hdel:=Gc x am s;have hle2:aG (ew H d true c) [.str s,.ptr b 0] (.ret (.bool (decide (s∈am))))=some [.str s,.vptr [.vsl 0 x (am.map .str)]]:=by
        refine ed rfl rfl ?_;have hp:fz (ew H d true c) 20 (.ptr b 0)=some (.vptr [.vsl 0 x (am.map .str)]):=vf (hbR c) (by simp) (by simp[AV.hfs,AV.hf,az]);simp only[List.mapM_cons,List.mapM_nil,hp,dj (show AV.hf (.str s)=true from rfl)];rfl
      by_cases hq:s∈am
      · rw[if_pos hq]at hmt
        rw[decide_eq_true hq]at hdel hle2;refine .vc (by decide) ?_
        repeat'(first|(simp(disch:=first|omega|(simp only[zL];omega))only[go_sem,seval,hln,hj,g1])|(guard_target=~ aj _ _ _ _ _ _ _;refine aj.aG _ hdel hle2 ?_))
        exact⟨(j+1,i,c),⟨k1,by simp only;omega,h,by simp only;rw[k4,hmt],by simp only;rw[←List.drop_drop,k5,List.drop_drop]⟩,by simp only;omega,⟨rfl,rfl,rfl,rfl,trivial⟩,rfl⟩
      · rw[if_neg hq]at hmt
        rw[decide_eq_false hq]at hdel hle2;refine .vc (by decide) ?_
        repeat'(first|(simp(disch:=first|omega|(simp only[zL];omega))only[go_sem,seval,hln,hj,hi,g1,g2])|(guard_target=~ aj _ _ _ _ _ _ _;refine aj.aG _ hdel hle2 ?_))
        refine⟨(j+1,i+1,c.set i s),⟨by simpa using k1,by simp only;omega,h,?_,?_⟩,by simp only;omega,⟨rfl,rfl,rfl,rfl,trivial⟩,rfl⟩
        · simp only
          rw[hmt,←k4,List.take_add_one,List.getElem?_set_self (by omega),List.take_set_of_le (Nat.le_refl _)];rfl
        · simp only
          rw[List.drop_set_of_lt (by omega),←List.drop_drop,k5,List.drop_drop]
    · have e:j=l.length:=by omega
      have hcl:c.take i=dN l am:=by rw[k4,e,List.take_length]
      have hkl:(dN l am).length=i:=by rw[←hcl];simp;omega
      have s1:=oN (d:=d) 0 l.length i (by omega);rw[Nat.zero_add]at s1;have s2:=B4 (d:=d) 0 l.length i (by omega);have s3:=xI (opn:=true) hdl (c:=c) (k:=i) (n:=l.length - i) (by omega) (by omega);rw[hkl,←hcl];refine .vc (by decide) ?_
      repeat'(first|(simp(disch:=first|omega|(simp only[zL];omega))only[go_sem,seval,hln,s1,s2,s3]))
      exact⟨_,_,⟨rfl,rfl⟩,_,rfl,rfl,_,rfl,rfl⟩
theorem Is{H:List OB}{b:Nat}{am:List Bytes}{x:Bool}(hb:H[b]? =some (.cells [.vsl 0 x (am.map .str)] false)):aY Tryz.prog 111 [.vsl 0 true [],tZ b] H (.ret (.vsl 0 true [])) H:=by
 refine ba.one ?_;refine ba.ofX Tryz.func111 rfl (ab enters Tryz.func111 rfl) (by simp[Tryz.ntmps111]) ?_;show W Tryz.prog 42 _ none _ _ ⟨aL 0 [.vsl 0 true [],tZ b],H,[]⟩;have hix:=HV true [] 113 [] [.vptr [.vsl 0 x (am.map .str)]] (pM am) (fun v hv=>by cases hv) ⟨rfl,rfl,by simp[AV.hfs,AV.hf,az]⟩ (fun v hv=>by cases hv);rw[show fI (pM am) 0 []= -1 from rfl]at hix;have hle:aG H [.vsl 0 true [],tZ b] (.ret (.int .i64 (-1)))=some [.vsl 0 true [],Ir x am]:=by
  refine ed rfl rfl ?_;simp only[List.mapM_cons,List.mapM_nil,dj (show AV.hf (.vsl 0 true [])=true from rfl),B5 (k:=18) hb];rfl
 refine .vc (by decide) ?_
 repeat'(first|(simp(disch:=first|omega|(simp only[zL];omega))only[go_sem,seval])|(guard_target=~ aj _ _ _ _ _ _ _;refine aj.aG _ hix hle ?_))
 exact⟨_,_,⟨rfl,rfl⟩,_,rfl,rfl,_,rfl,rfl⟩
set_option maxRecDepth 8000 in
theorem KI(x y:Bool)(l am:List Bytes)(hl:l.length≤1000000):ad Tryz.prog 63 [.vsl 0 x (l.map .str),.vsl 0 y (am.map .str)] (.ret (.vsl 0 false ((dN l am).map .str))):=by
 refine ad.of Tryz.func63 rfl (ab enters Tryz.func63 rfl) (by simp[Tryz.ntmps63]) ?_;show W Tryz.prog 9 0 none _ _ _;refine W.vc (by decide) ?_;have hc:=ba.frame (H:=[.cells [.vsl 0 y (am.map .str)] false]) (by simp[AV.hfs,AV.hf,az]) ((Iq x l hl).mono fun o K h=>fa h)
 repeat'(first|(simp(disch:=first|omega|(simp only[zL];omega))only[go_sem,seval])|(guard_target=~ aj _ _ _ _ _ _ _;refine aj.any _ hc ?_))
 rintro out K (⟨r,rfl,hr,⟨e,rfl⟩,rfl⟩|⟨off,len,wd,cs,opn,rfl,hcs,⟨rfl,rfl,rfl,rfl,rfl⟩,rfl⟩)
 ·subst e
  have hd:=Is (H:=[.cells [.vsl 0 y (am.map .str)] false]) (b:=0) (am:=am) (x:=y) rfl
  repeat'(first|(simp(disch:=first|omega|(simp only[zL];omega))only[go_sem,seval])|(guard_target=~ aj _ _ _ _ _ _ _;refine aj.sh hd ?_))
  exact rn 4 rfl rfl rfl rfl (.exact _ _ _)
 ·have hd:=MJ (H:=[.cells [.vsl 0 y (am.map .str)] false,.cells (l.map .str) true]) (d:=1) (b:=0) (l:=l) (am:=am) (x:=y) rfl rfl hl
  simp only[List.length_cons,List.length_nil,List.cons_append,List.nil_append,Nat.zero_add]
  repeat'(first|(simp(disch:=first|omega|(simp only[zL];omega))only[go_sem,seval])|(guard_target=~ aj _ _ _ _ _ _ _;refine aj.sh hd ?_))
  have hz:=iY (H:=ew [.cells [.vsl 0 y (am.map .str)] false,.cells (l.map .str) true] 1 true (dN l am++List.replicate (l.length - (dN l am).length) [])) (d:=1) (k:=19) (n:=(dN l am).length) (iW (by simp) _) (by simp);rw[List.take_left]at hz;exact kI 4 rfl rfl rfl hz (.refl _)
theorem KJ{P:Program}(hm:P.follows .mixedOrders=true)(hN:Go.Av.Enters P)(d:Nat){f:FuncId}{args:List AV}{H H':List OB}{out:Out}(h:du P Ar d (.fn f) args H=some (out,H')):aY P f args H out H':=
 (nM (P:=P) (Y:=Ar) ⟨hm,hN,fun f args out h=>(by cases h),fun f args H out H' h=>(by cases h)⟩ d).1 (.fn f) args H out H' h
def It:List Bytes:=[[92],[92,92],[44],[92,44],[59],[92,59],[10],[92,110]]
def obE:OB:=.cells (It.map .str) true
def MK(a b c d n:AV):List AV:=(List.range 256).map fun k=>if k=10 then a else if k=59 then b else if k=44 then c else if k=92 then d else n
def bsC:OB:=.cells (MK (.sl 4 0 2 0) (.sl 5 0 2 0) (.sl 6 0 2 0) (.sl 7 0 2 0) .nilsl++[.sl 2 0 4 0]) false
def bsT:List OB:=[.cells [.str [10],.str [59],.str [44],.str [92]] false,bsC,
   .cells (av [92,110]) true,.cells (av [92,59]) true,.cells (av [92,44]) true,.cells (av [92,92]) true]
theorem Iu:aY Tryz.prog 176 [.ptr 1 0] [obE,obR] (.ret (.iface 236 (.ptr 3 0))) (obE::obR::bsT):=
 KJ mixed enters 2 (by kernel_rfl)
def KK:OB:=.cells [.int .u32 0,.int .i32 1,.int .u32 0,.iface 236 (.ptr 3 0),.vsl 0 true []] false
def B6:OB:=.cells [.int .u32 1,.int .i32 0,.int .u32 0,.iface 236 (.ptr 3 0),.vsl 0 true []] false
theorem KM:aY Tryz.prog 143 [.ptr 1 0] [obE,obR] (.ret (.tup [])) (obE::KK::bsT):=by
 refine aY.ofX Tryz.func143 rfl (ab enters Tryz.func143 rfl) (by simp[Tryz.ntmps143]) ?_;show W Tryz.prog 10 2 none _ _ _;have h1:aA Tryz.prog 175 (.ptr 1 3) (.iface 236 (.ptr 3 0)) (obE::obR::bsT)=some (obE::.cells [.int .u32 0,.int .i32 1,.int .u32 0,.iface 236 (.ptr 3 0),.sl 0 0 8 0] false::bsT):=by kernel_rfl
 have h2:aA Tryz.prog 25 (.ptr 1 4) (.vsl 0 true []) (obE::.cells [.int .u32 0,.int .i32 1,.int .u32 0,.iface 236 (.ptr 3 0),.sl 0 0 8 0] false::bsT)=some (obE::KK::bsT):=by kernel_rfl
 refine .seq (.region [.sh (.ret (.iface 236 (.ptr 3 0))) (obE::obR::bsT)] (by decide) ?_);simp only[al,gdA,ae,aa,ah,an,evalOp,St.ev,Av.get,St.put,aL,ai,Nat.reduceEqDiff,↓reduceIte,List.map_cons,List.map_nil,List.nil_append,List.append_nil,Option.map_some,Nat.zero_add,bl,kF,h1];refine⟨Iu,?_⟩;refine .region [] (by decide) ?_;simp only[al,gdA,ae,aa,ah,an,evalOp,St.ev,Av.get,St.put,ofV,Nat.reduceEqDiff,↓reduceIte,Option.map_some,and_self,Nat.zero_add,bl,nb,h2];exact⟨_,rfl,rfl,_,rfl,rfl⟩
/-! ### The replacer, looked up -/
def e4:Bytes:=[10,59,44,92]
def rv(x:Nat):AV:=if x=10 then .vsl 0 false [.int .u8 92,.int .u8 110]else if x=59 then .vsl 0 false [.int .u8 92,.int .u8 59]else if x=44 then .vsl 0 false [.int .u8 92,.int .u8 44]else if x=92 then .vsl 0 false [.int .u8 92,.int .u8 92]else .nilsl
def eV:AV:=.vsl 0 false (e4.map fun x=>.str [x])
def eCs:List AV:=(List.range 256).map rv++[eV]
theorem Iv(s:Bytes)(r:Bytes):aG (obE::B6::bsT) [.ptr 3 0,.str s] (.ret (.str r))=some [.vptr eCs,.str s]:=by kernel_rfl
def spB(x:UInt8):Bool:=x==10||x==59||x==44||x==92
theorem Ge{x:UInt8}(h:spB x=false):rv x.toNat=.nilsl:=by
 have:=iQ (fun x=>spB x||(!(x.toNat==10)&& !(x.toNat==59)&& !(x.toNat==44)&& !(x.toNat==92))) (by decide+kernel) x;simp only[h,Bool.false_or,Bool.and_eq_true,Bool.not_eq_true',beq_eq_false_iff_ne]at this;obtain⟨⟨⟨h1,h2⟩,h3⟩,h4⟩:=this;unfold rv;rw[if_neg h1,if_neg h2,if_neg h3,if_neg h4]
theorem si{x:UInt8}(h:spB x=true):∃y:UInt8,jW x=[92,y]∧rv x.toNat=.vsl 0 false [.int .u8 92,.int .u8 y.toNat]:=by
 simp only[spB,Bool.or_eq_true,beq_iff_eq]at h;rcases h with((h|h)|h)|h<;>subst h
 ·exact⟨110,rfl,rfl⟩
 ·exact⟨59,rfl,rfl⟩
 ·exact⟨44,rfl,rfl⟩
 ·exact⟨92,rfl,rfl⟩
theorem sj{x:UInt8}(h:spB x=false):jW x=[x]:=by
 have:=iQ (fun x=>spB x||(jW x==[x])) (by decide+kernel) x;simpa[h]using this
def ex(t:Bytes):Nat:=(t.filter spB).length
theorem E1{s:Bytes}{i:Nat}{x:UInt8}(h:s[i]? =some x):ex (s.take (i+1))=ex (s.take i)+(if spB x then 1 else 0):=by
 unfold ex;rw[List.take_add_one,h,List.filter_append];cases hx:spB x<;>simp[hx]
theorem B7:∀s:Bytes,(esc s).length=s.length+ex s
 | []=>rfl
 |x::s=>by
  rw[oD,List.length_append,B7 s,List.length_cons];unfold ex;cases hx:spB x with
  |false=>rw[sj hx,List.filter_cons_of_neg (by simp[hx])];simp;omega
  |true=>obtain⟨y,hy,_⟩:=si hx;rw[hy,List.filter_cons_of_pos hx];simp;omega
theorem KO:∀s:Bytes,ex s=0→esc s=s
 | [],_=>rfl
 |x::s,h=>by
  unfold ex at h;cases hx:spB x with
  |true=>rw[List.filter_cons_of_pos hx]at h;simp at h
  |false=>rw[List.filter_cons_of_neg (by simp[hx])]at h;rw[oD,sj hx,KO s h];rfl
def cs4(s:Bytes)(i:Nat):Nat:=((e4.take i).map fun x=>s.count x).sum
theorem E2(s:Bytes):cs4 s 4=ex s:=by
 show s.count 10+(s.count 59+(s.count 44+(s.count 92+0)))=ex s;unfold ex;induction s with
 |nil=>rfl
 | cons x s ih=>
  cases hx:spB x with
  |true=>
   rw[List.filter_cons_of_pos hx,List.length_cons,←ih];simp only[spB,Bool.or_eq_true,beq_iff_eq]at hx;rcases hx with((h|h)|h)|h<;>subst h<;>simp[List.count_cons]<;>omega
  |false=>
   rw[List.filter_cons_of_neg (by simp[hx]),←ih];simp only[spB,Bool.or_eq_false_iff,beq_eq_false_iff_ne]at hx;simp[List.count_cons,hx]
theorem B8{s:Bytes}{i:Nat}{x:UInt8}(h:e4[i]? =some x):cs4 s (i+1)=cs4 s i+s.count x:=by
 unfold cs4;rw[List.take_add_one,h];simp
theorem B9(s:Bytes)(i:Nat)(hi:i≤4):cs4 s i≤4*s.length:=by
 have h:∀x,s.count x≤s.length:=fun x=>List.count_le_length;have:=h 10;have:=h 59;have:=h 44;have:=h 92
 match i,hi with
 |0,_=>simp[cs4]
 |1,_=>show s.count 10+0≤_;omega
 |2,_=>show s.count 10+(s.count 59+0)≤_;omega
 |3,_=>show s.count 10+(s.count 59+(s.count 44+0))≤_;omega
 |4,_=>show s.count 10+(s.count 59+(s.count 44+(s.count 92+0)))≤_;omega
theorem Iw(s:Bytes)(x:UInt8)(hs:s.length≤1000000):ad Tryz.prog 279 [.str s,.str [x]] (.ret (.int .i64 (s.count x:Int))):=by
 refine ad.wP (V:=.int .i64 (Lib.countByte s x:Nat)) enters Tryz.func279 rfl vh (fun w=>(Tryz.strings_Count_one ⟨s.toArray⟩ x w).mono ?_) ?_
 ·rintro e w' ⟨rfl,rfl⟩
  exact⟨rfl,.refl _ _⟩
 ·intro F w
  have:Lib.countByte s x=s.count x:=rfl;exact .int _ _
theorem Ix(x:UInt8)(H:List OB):ao Tryz.prog 108 (.vptr (eCs.drop x.toNat)) H=some (rv x.toNat):=by
 have h1:eCs[x.toNat]? =some (rv x.toNat):=by
  have:=x.toNat_lt;unfold eCs;rw[List.getElem?_append_left (by simp;omega)];simp[List.getElem?_range this]
 have h2:(rv x.toNat).isC=true:=by unfold rv;split<;>(try split)<;>(try split)<;>(try split)<;>rfl
 simp[ao,FG,Jn,ldA,h1]
theorem Iy(x:UInt8)(H:List OB):ak Tryz.prog 233 (.vptr eCs) (.int .u8 (x.toNat:Int)) H=some (.vptr (eCs.drop x.toNat)):=by
 have:=x.toNat_lt;simp[ak,bt,Tryz.underlying233,FG,this]
theorem ns1(t wd:Nat)(x:Bool)(a:AV)(l:List AV)(hk:bC Tryz.prog t=1)(p q:Nat):dB Tryz.prog .neq t (.vsl wd x (a::l)) (.const (.slice none p q))=some (.bool true):=by simp[dB,hk]
theorem ns2(t wd:Nat)(x:Bool)(l:List AV)(w:AV)(o:BinOp):aH Tryz.prog o t (.vsl wd x l) w=none:=by cases o<;>rfl
theorem ns3(t wd:Nat)(x:Bool)(l:List AV)(w:AV)(o:BinOp):bM Tryz.prog o t (.vsl wd x l) w=none:=by cases o<;>simp[bM]
theorem E3:bC Tryz.prog 108=1:=by kernel_rfl
def wE(n:Nat)(out:Bytes):List OB:=[.cells (av out++cr (n - out.length)) false]
theorem E4(n:Nat)(out:Bytes)(a b:UInt8)(h:out.length+2≤n):lH Tryz.prog 108 (.sl 0 out.length (n - out.length) 0) (.vsl 0 false [.int .u8 a.toNat,.int .u8 b.toNat]) (wE n out)=some (.int .i64 2,wE n (out++[a,b])):=by
 have hset:cz (av out++cr (n - out.length)) out.length [.int .u8 a.toNat,.int .u8 b.toNat]=av (out++[a,b])++cr (n - (out++[a,b]).length):=by
  have:=lT (av out) (cr (n - out.length)) [.int .u8 a.toNat,.int .u8 b.toNat] (by simp[cr];omega);rw[cK]at this;rw[this];congr 1
  ·simp[av,aS]
  ·simp[cr,Nat.sub_sub]
 have hn:cp 1 (.vsl 0 false [.int .u8 a.toNat,.int .u8 b.toNat]) (wE n out)=some (2,[.int .u8 a.toNat,.int .u8 b.toNat]):=rfl;have hz:(cr (n - out.length)).length=n - out.length:=by simp[cr]
 simp only[lH,Tryz.underlying108,tz5,hn];simp only[wE,List.getElem?_cons_zero,esz,hset,↓reduceIte];rw[if_pos (by refine⟨trivial,rfl,by omega,?_⟩;rw[List.length_append,cK,hz];omega)];rfl
theorem Iz(n:Nat)(out:Bytes)(a:UInt8)(h:out.length<n):aA Tryz.prog 5 (.ptr 0 out.length) (.int .u8 a.toNat) (wE n out)=some (wE n (out++[a])):=by
 have hset:(av out++cr (n - out.length)).set out.length (.int .u8 a.toNat)=av (out++[a])++cr (n - (out++[a]).length):=by
  have:=lT (av out) (cr (n - out.length)) [.int .u8 a.toNat] (by simp[cr];omega);rw[cK,kC]at this;rw[this];congr 1
  ·simp[av,aS]
  ·simp[cr,Nat.sub_sub]
 have hl:(av out++cr (n - out.length)).length=n:=by rw[List.length_append,cK];simp[cr];omega
 rw[st5];simp[stC,wE,AV.cells,AV.isC,kC,hl,hset];omega
theorem IA(out:Bytes)(n:Nat)(h:out.length=n):bx Tryz.prog 108 9 (.sl 0 0 n 0) (wE n out)=some (.str out,wE n out):=by
 subst h;have hbl:=cK out;simp[bx,Tryz.underlying9,Tryz.underlying108,Tryz.underlying5,wE,cr,hbl,List.take_of_length_le,dY]
theorem ML{K:St→Prop}{Q:Ex→St→Prop}{a:St}:ai K Q .normal a=K a:=Eq.trans rfl rfl
set_option maxRecDepth 100000 in
theorem KR(H:List OB):ao Tryz.prog 25 (.vptr (eCs.drop 256)) H=some eV:=by kernel_rfl
set_option maxRecDepth 8000 in
theorem Ca(s:Bytes)(hs:s.length≤1000000):ad Tryz.prog 277 [.vptr eCs,.str s] (.ret (.str (esc s))):=by
 have hld:=Ix;have hix:=Iy;have hl1:=KR;generalize eCs=E at*;have hlen:=B7 s;have hexl:ex s≤s.length:=by unfold ex;exact List.length_filter_le _ _
 have hne1:=ne1;refine ad.of Tryz.func277 rfl (ab enters Tryz.func277 rfl) (by simp[Tryz.ntmps277]) ?_;show W Tryz.prog 122 0 none _ _ _;refine .seq (.vc (by decide) ?_)
 repeat'(first|(simp(disch:=first|omega|(simp only[zL];omega))only[go_sem,Nat.reduceEqDiff,↓reduceIte,Nat.reduceAdd,Nat.reduceMul,Nat.reduceSub,Nat.reduceLeDiff,Nat.reduceLT,Int.reduceToNat,Int.reduceLE]))
 refine .seq (.vc (by decide) ?_)
 repeat'(first|(simp(disch:=first|omega|(simp only[zL];omega))only[go_sem,Nat.reduceEqDiff,↓reduceIte,Nat.reduceAdd,Nat.reduceMul,Nat.reduceSub,Nat.reduceLeDiff,Nat.reduceLT,Int.reduceToNat,Int.reduceLE]))
 refine .seq (.vc (by decide) ?_)
 repeat'(first|(simp(disch:=first|omega|(simp only[zL];omega))only[go_sem,Nat.reduceEqDiff,↓reduceIte,Nat.reduceAdd,Nat.reduceMul,Nat.reduceSub,Nat.reduceLeDiff,Nat.reduceLT,Int.reduceToNat,Int.reduceLE]))
 refine W.gX [(5,.int .i64 ((s.length+ex s:Nat):Int)),(6,.bool (decide (0<ex s))),(0,.vptr E),(1,.str s)] [] (.vc (by decide) ?_) ?_
 ·have hle:aI Tryz.prog 25 eV []=some (.int .i64 4):=by kernel_rfl
  have hdV:deN eV=eV:=rfl;have hmul8:aH Tryz.prog .mul 3 (.int .i64 4) (.int .i64 8)=some (.int .i64 32):=by kernel_rfl
  by_cases h32:32≤s.length
  ·repeat'(first|(simp(disch:=first|omega|(simp only[zL];omega))only[go_sem,Nat.reduceEqDiff,↓reduceIte,Nat.reduceAdd,Nat.reduceMul,Nat.reduceSub,Nat.reduceLeDiff,Nat.reduceLT,Int.reduceToNat,Int.reduceLE,hl1,hle,hdV,hmul8]))
   refine W.bc (X:=Nat) (fun i=>[(32,.int .i64 (i:Int)),(31,.int .i64 4),(30,eV),(5,.int .i64 ((s.length+cs4 s i:Nat):Int)),(6,.bool (decide (0<cs4 s i))),(0,.vptr E),(1,.str s)]) (fun _=>[]) (fun i=>i≤4) (fun i=>4 - i) 0 (Nat.zero_le _) ⟨rfl,rfl,rfl,rfl,rfl,rfl,rfl,trivial⟩ rfl ?_;intro i hi;have hcle:=B9 s i hi;have hcle1:=B9 s (i+1);refine .vc (by decide) ?_;by_cases h:i<4
   ·obtain⟨x,hx⟩:∃x,e4[i]? =some x:=⟨_,List.getElem?_eq_getElem (by simpa[e4]using h)⟩
    have hia:∀H,ak Tryz.prog 25 eV (.int .i64 (i:Int)) H=some (.vptr [.str [x]]):=fun H=>eJ (v:=.str [x]) (by simp[hx]) rfl H;have hcs:=B8 (s:=s) hx;have hc:=Iw s x hs;have hcl:=List.count_le_length (a:=x) (l:=s);have hsp:spB x=true:=by
     match i,h with
     |0,_=>cases hx;rfl
     |1,_=>cases hx;rfl
     |2,_=>cases hx;rfl
     |3,_=>cases hx;rfl
    obtain⟨y,_,hrv⟩:=si hsp;have hx0:cf Tryz.prog 9 (.str [x]) (.int .i64 0)=some (.int .u8 x.toNat):=xi9 (n:=0) rfl;by_cases h0:s.count x=0
    ·rw[h0]at hc hcs
     repeat'(first|(simp(disch:=first|omega|(simp only[zL];omega))only[go_sem,Nat.reduceEqDiff,↓reduceIte,Nat.reduceAdd,Nat.reduceMul,Nat.reduceSub,Nat.reduceLeDiff,Nat.reduceLT,Int.reduceToNat,Int.reduceLE,hia])|((with_reducible first|apply aj.pure|apply ar.pure);(with_reducible exact hc);(first|rfl|simp only[go_sem])))
     refine⟨i+1,by omega,by omega,⟨rfl,rfl,rfl,by rw[hcs];rfl,by rw[hcs];rfl,rfl,rfl,trivial⟩⟩
    ·have h0':0<s.count x:=by omega
     repeat'(first|(simp(disch:=first|omega|(simp only[zL];omega))only[go_sem,Nat.reduceEqDiff,↓reduceIte,Nat.reduceAdd,Nat.reduceMul,Nat.reduceSub,Nat.reduceLeDiff,Nat.reduceLT,Int.reduceToNat,Int.reduceLE,hia])|((with_reducible first|apply aj.pure|apply ar.pure);(with_reducible exact hc);(first|rfl|simp only[go_sem])))
     refine W.bw [] [false,false,false,false,false,false,false,false,false,false,false,false,false,false] [] mixed (by kernel_rfl) (by kernel_rfl) (by kernel_rfl) ?_;have hmul:aH Tryz.prog .mul 3 (.int .i64 (s.count x:Int)) (.int .i64 (((2:Nat):Int) - 1))=some (.int .i64 (s.count x:Int)):=by
      have:IntKind.i64.wrap ((s.count x:Int)*(((2:Nat):Int) - 1))=(s.count x:Int):=by rw[show((s.count x:Int)*(((2:Nat):Int) - 1))=(s.count x:Int) by simp,Go.Av.wrap64 _ ⟨by omega,by omega⟩]
      simp only[aH,this,↓reduceIte]
     repeat'(first|(simp(disch:=first|omega|(simp only[zL];omega))only[go_sem,Nat.reduceEqDiff,↓reduceIte,Nat.reduceAdd,Nat.reduceMul,Nat.reduceSub,Nat.reduceLeDiff,Nat.reduceLT,Int.reduceToNat,Int.reduceLE,hx0,hix,hld,hrv,hmul,qa]))
     refine⟨i+1,by omega,by omega,⟨rfl,rfl,rfl,by simp only[Av.get,Nat.reduceEqDiff,↓reduceIte];rw[hcs];congr 1;omega,by rw[hcs];simp[Av.get];omega,rfl,rfl,trivial⟩⟩
   ·have e:i=4:=by omega
    subst e;rw[E2]
    repeat'(first|(simp(disch:=first|omega|(simp only[zL];omega))only[go_sem,Nat.reduceEqDiff,↓reduceIte,Nat.reduceAdd,Nat.reduceMul,Nat.reduceSub,Nat.reduceLeDiff,Nat.reduceLT,Int.reduceToNat,Int.reduceLE]))
    exact⟨rfl,rfl,rfl,rfl,trivial⟩
  ·repeat'(first|(simp(disch:=first|omega|(simp only[zL];omega))only[go_sem,Nat.reduceEqDiff,↓reduceIte,Nat.reduceAdd,Nat.reduceMul,Nat.reduceSub,Nat.reduceLeDiff,Nat.reduceLT,Int.reduceToNat,Int.reduceLE,hl1,hle,hdV,hmul8]))
   refine W.bc (X:=Nat) (fun i=>[(10,.int .i64 (i:Int)),(5,.int .i64 ((s.length+ex (s.take i):Nat):Int)),(6,.bool (decide (0<ex (s.take i)))),(0,.vptr E),(1,.str s)]) (fun _=>[]) (fun i=>i≤s.length) (fun i=>s.length - i) 0 (Nat.zero_le _) ⟨rfl,rfl,rfl,rfl,rfl,trivial⟩ rfl ?_;intro i hi;refine .vc (by decide) ?_;by_cases h:i<s.length
   ·obtain⟨x,hx,hdrop⟩:=drop_at h
    have hex:=E1 hx;have hxl:ex (s.take i)≤s.length:=Nat.le_trans (List.length_filter_le _ _) (by simp;omega);cases hsp:spB x with
    |false=>
     have hrv:=Ge hsp;rw[hsp]at hex
     repeat'(first|(simp(disch:=first|omega|(simp only[zL];omega))only[go_sem,Nat.reduceEqDiff,↓reduceIte,Nat.reduceAdd,Nat.reduceMul,Nat.reduceSub,Nat.reduceLeDiff,Nat.reduceLT,Int.reduceToNat,Int.reduceLE,xi9 hx,hix,hld,hrv,ne1 _ _ _ E3,ne2 108 .nilsl,ne3]))
     refine⟨i+1,by omega,by omega,⟨rfl,by rw[hex];simp[Av.get],by rw[hex];simp[Av.get],rfl,rfl,trivial⟩⟩
    |true=>
     obtain⟨y,_,hrv⟩:=si hsp;rw[hsp]at hex
     repeat'(first|(simp(disch:=first|omega|(simp only[zL];omega))only[go_sem,Nat.reduceEqDiff,↓reduceIte,Nat.reduceAdd,Nat.reduceMul,Nat.reduceSub,Nat.reduceLeDiff,Nat.reduceLT,Int.reduceToNat,Int.reduceLE,xi9 hx,hix,hld,hrv,ns1 _ _ _ _ _ E3,ns2,ns3,qa]))
     refine⟨i+1,by omega,by omega,⟨rfl,by rw[hex];simp[Av.get];omega,by rw[hex];simp[Av.get],rfl,rfl,trivial⟩⟩
   ·have e:i=s.length:=by omega
    subst e;rw[List.take_length]
    repeat'(first|(simp(disch:=first|omega|(simp only[zL];omega))only[go_sem,Nat.reduceEqDiff,↓reduceIte,Nat.reduceAdd,Nat.reduceMul,Nat.reduceSub,Nat.reduceLeDiff,Nat.reduceLT,Int.reduceToNat,Int.reduceLE]))
    exact⟨rfl,rfl,rfl,rfl,trivial⟩
 refine W.nO (ex s≠0) [(5,.int .i64 ((s.length+ex s:Nat):Int)),(0,.vptr E),(1,.str s)] [] (.vc (by decide) ?_) ?_
 ·by_cases h0:ex s=0
  ·have hd0:decide (0<ex s)=false:=decide_eq_false (by omega)
   rw[hd0]
   repeat'(first|(simp(disch:=first|omega|(simp only[zL];omega))only[go_sem,Nat.reduceEqDiff,↓reduceIte,Nat.reduceAdd,Nat.reduceMul,Nat.reduceSub,Nat.reduceLeDiff,Nat.reduceLT,Int.reduceToNat,Int.reduceLE]))
   rw[KO s h0];exact⟨_,rfl,_,rfl,.refl _⟩
  ·have hd0:decide (0<ex s)=true:=decide_eq_true (by omega)
   rw[hd0]
   repeat'(first|(simp(disch:=first|omega|(simp only[zL];omega))only[go_sem,Nat.reduceEqDiff,↓reduceIte,Nat.reduceAdd,Nat.reduceMul,Nat.reduceSub,Nat.reduceLeDiff,Nat.reduceLT,Int.reduceToNat,Int.reduceLE]))
   exact⟨h0,rfl,rfl,rfl,trivial⟩
 intro h0;rw[←hlen];obtain⟨N,hN⟩:∃N,N=(esc s).length:=⟨_,rfl⟩
 rw[←hN];have hmk:cX Tryz.prog 108 (.int .i64 (N:Int)) (.int .i64 (N:Int)) []=some (.sl 0 0 N 0,wE N []):=by
  have hz8:bS Tryz.prog 5=some (.int .u8 0):=by kernel_rfl
  have hr:rep N (AV.cells (.int .u8 0))=cr N:=by simp[rep,cr,AV.cells,List.flatten_replicate_singleton]
  simp only[cX,Tryz.underlying108,bt,sX,hz8,List.length_nil,List.nil_append,hr];rw[if_pos (by omega)];rfl
 refine .vc (by decide) ?_
 repeat'(first|(simp(disch:=first|omega|(simp only[zL];omega))only[go_sem,Nat.reduceEqDiff,↓reduceIte,Nat.reduceAdd,Nat.reduceMul,Nat.reduceSub,Nat.reduceLeDiff,Nat.reduceLT,Int.reduceToNat,Int.reduceLE,hmk]))
 refine W.bc (X:=Nat) (fun i=>[(14,.int .i64 (i:Int)),(13,.int .i64 ((esc (s.take i)).length:Int)),(12,.sl 0 0 N 0),(0,.vptr E),(1,.str s)]) (fun i=>wE N (esc (s.take i))) (fun i=>i≤s.length) (fun i=>s.length - i) 0 (Nat.zero_le _) ⟨rfl,rfl,rfl,rfl,rfl,trivial⟩ rfl ?_;intro i hi;refine .vc (by decide) ?_;by_cases h:i<s.length
 ·obtain⟨x,hx,hdrop⟩:=drop_at h
  have htk:=tJ hx;have hle:=mH s (i+1);rw[htk,←hN]at hle;obtain⟨o,ho⟩:∃o,o=esc (s.take i):=⟨_,rfl⟩
  rw[←ho]at htk hle ⊢;cases hsp:spB x with
  | false=>
   have hrv:=Ge hsp;rw[sj hsp]at htk hle;simp only[List.length_append,List.length_cons,List.length_nil]at hle;have hput:=Iz N o x (by omega);have hia:∀H,ak Tryz.prog 108 (.sl 0 0 N 0) (.int .i64 (o.length:Int)) H=some (.ptr 0 o.length):=by
    intro H;simp[ak,bt,Tryz.underlying108,tz5];omega
   repeat'(first|(simp(disch:=first|omega|(simp only[zL];omega))only[go_sem,Nat.reduceEqDiff,↓reduceIte,Nat.reduceAdd,Nat.reduceMul,Nat.reduceSub,Nat.reduceLeDiff,Nat.reduceLT,Int.reduceToNat,Int.reduceLE,xi9 hx,hix,hld,hrv,ne1 _ _ _ E3,ne2 108 .nilsl,ne3,hia,hput,ML]))
   exact⟨i+1,by omega,by omega,⟨rfl,by rw[htk];simp[Av.get],rfl,rfl,rfl,trivial⟩,by rw[htk]⟩
  | true=>
   obtain⟨y,hy,hrv⟩:=si hsp;rw[hy]at htk hle;simp only[List.length_append,List.length_cons,List.length_nil]at hle;have hcp:=E4 N o 92 y (by omega);have hcp:lH Tryz.prog 108 (.sl 0 o.length (N - o.length) 0) (.vsl 0 false [.int .u8 92,.int .u8 y.toNat]) (wE N o)=some (.int .i64 2,wE N (o++[92,y])):=hcp;have hsl:aM Tryz.prog 108 (.sl 0 0 N 0) (some (.int .i64 (o.length:Int))) none none=some (.sl 0 o.length (N - o.length) 0):=by
    simp only[aM,Tryz.underlying108,tz5,bn .i64 o.length (show o.length≤N by omega),esz,↓reduceIte];rw[if_pos (by omega)];simp
   repeat'(first|(simp(disch:=first|omega|(simp only[zL];omega))only[go_sem,Nat.reduceEqDiff,↓reduceIte,Nat.reduceAdd,Nat.reduceMul,Nat.reduceSub,Nat.reduceLeDiff,Nat.reduceLT,Int.reduceToNat,Int.reduceLE,xi9 hx,hix,hld,hrv,ns1 _ _ _ _ _ E3,ns2,ns3]))
   refine W.bw [10] [false,false,false,false,false,false,false,false,false,false,true,false,false] [] mixed (by kernel_rfl) (by kernel_rfl) (by kernel_rfl) ?_
   repeat'(first|(simp(disch:=first|omega|(simp only[zL];omega))only[go_sem,Nat.reduceEqDiff,↓reduceIte,Nat.reduceAdd,Nat.reduceMul,Nat.reduceSub,Nat.reduceLeDiff,Nat.reduceLT,Int.reduceToNat,Int.reduceLE,hix,hld,hrv,hsl,hcp]))
   exact⟨i+1,by omega,by omega,⟨rfl,by rw[htk];simp[Av.get],rfl,rfl,rfl,trivial⟩,by rw[htk]⟩
 ·have e:i=s.length:=by omega
  subst e;rw[List.take_length];have hcv:=IA (esc s) N hN.symm
  repeat'(first|(simp(disch:=first|omega|(simp only[zL];omega))only[go_sem,Nat.reduceEqDiff,↓reduceIte,Nat.reduceAdd,Nat.reduceMul,Nat.reduceSub,Nat.reduceLeDiff,Nat.reduceLT,Int.reduceToNat,Int.reduceLE,hcv]))
  exact⟨_,rfl,_,rfl,.refl _⟩
theorem KS:gD Tryz.prog 236 "Replace" =some 277:=by kernel_rfl
theorem KT(s:Bytes)(hs:s.length≤1000000):aY Tryz.prog 107 [.ptr 1 0,.str s] [obE,obS] (.ret (.str (esc s))) (obE::B6::bsT):=by
 refine aY.ofX Tryz.func107 rfl (ab enters Tryz.func107 rfl) (by simp[Tryz.ntmps107]) ?_;show W Tryz.prog 17 2 none _ _ _;refine .seq (.region [] (by decide) ?_);simp only[al,gdA,ae,aa,ah,an,evalOp,St.ev,St.put,aL,ofV,ai,Nat.zero_add];refine .seq (.region [.sh (.ret (.tup [])) (obE::B6::bsT)] (by decide) ?_);simp only[al,gdA,ae,aa,ah,an,evalOp,St.ev,Av.get,St.put,ai,Nat.reduceEqDiff,↓reduceIte,List.map_cons,List.map_nil,List.nil_append,List.append_nil,Option.map_some,Nat.add_zero,bl,ri];refine⟨FU (Nat.zero_le _) KM,?_⟩;refine .seq (.region [.pure (.ret (.str (esc s)))] (by decide) ?_)
 have hl:ao Tryz.prog 175 (.ptr 1 3) (obE::B6::bsT)=some (.iface 236 (.ptr 3 0)):=by kernel_rfl
 simp only[al,gdA,ae,aa,ah,an,evalOp,St.ev,Av.get,St.put,ai,Nat.reduceEqDiff,↓reduceIte,List.map_cons,List.map_nil,Option.map_some,Nat.zero_add,bl,kF,hl,KS,Iv];refine⟨Ca s hs,?_⟩;exact .ret ⟨_,rfl,rfl,_,rfl,rfl⟩
set_option maxRecDepth 4000 in
theorem IB(s:Bytes)(hs:s.length≤1000000):ad Tryz.prog 61 [.str s] (.ret (.str (esc s))):=by
 refine ad.of Tryz.func61 rfl (ab enters Tryz.func61 rfl) (by simp[Tryz.ntmps61]) ?_;show W Tryz.prog 7 0 none _ _ _;refine .seq (.region [] (by decide) ?_);simp only[al,gdA,ae,aa,ah,an,evalOp,St.ev,St.put,aL,ofV,ai];refine .seq (.region [.sh (.ret (.ptr 1 0)) [obE,obS],.sh (.ret (.str (esc s))) (obE::B6::bsT)] (by decide) ?_);have hb:au Tryz.prog 25 8 [(0,.str [92]),(1,.str [92,92]),(2,.str [44]),(3,.str [92,44]),(4,.str [59]),(5,.str [92,59]),(6,.str [10]),(7,.str [92,110])]=some (.vsl 0 true (It.map .str)):=by kernel_rfl
 have x1:({data:=#[92]}:ByteArray).size≤ay:=by decide
 have x2:({data:=#[92,92]}:ByteArray).size≤ay:=by decide
 have x3:({data:=#[44]}:ByteArray).size≤ay:=by decide
 have x4:({data:=#[92,44]}:ByteArray).size≤ay:=by decide
 have x5:({data:=#[59]}:ByteArray).size≤ay:=by decide
 have x6:({data:=#[92,59]}:ByteArray).size≤ay:=by decide
 have x7:({data:=#[10]}:ByteArray).size≤ay:=by decide
 have x8:({data:=#[92,110]}:ByteArray).size≤ay:=by decide
 simp only[al,gdA,ae,aa,ah,an,evalOp,St.ev,Av.get,St.put,ofV,ai,Nat.reduceEqDiff,↓reduceIte,List.map_cons,List.map_nil,List.nil_append,List.append_nil,Option.map_some,x1,x2,x3,x4,x5,x6,x7,x8,hb];refine⟨A1 true It rfl (by decide),KT s hs,?_⟩;exact .ret ⟨_,rfl,_,rfl,.refl _⟩
set_option maxRecDepth 8000 in
theorem MM(l:Ln)(k:Kd)(n:Bytes)(hv:l.v.length≤1000000):ba Tryz.prog 70 [encS l k n] [] (eD (gR k l.v)):=by
 obtain⟨fs,b,m⟩:=k;obtain⟨g,nm,x,ps,v⟩:=l;have hPh:=aB ps;have hFh:AV.hfs (fs.map fun f:Nat=>AV.int .i64 (f:Int))=true:=by rw[aR,List.all_eq_true];intro v hv;obtain⟨l,_,rfl⟩:=List.mem_map.1 hv;rfl
 obtain⟨P,hP⟩:∃P,P=ps.map aD:=⟨_,rfl⟩
 obtain⟨Fv,hF⟩:∃Fv,Fv=fs.map fun f:Nat=>AV.int .i64 (f:Int):=⟨_,rfl⟩
 simp only[encS,fsV,←hP,←hF,gR]at hPh hFh ⊢;have hpt:=BQ v false hv;have hm:mk false=59:=rfl;rw[hm]at hpt;refine ba.of0 Tryz.func70 rfl (ab enters Tryz.func70 rfl) (by simp[Tryz.ntmps70]) ?_;show W Tryz.prog 15 _ none _ _ _;cases b with
 | true=>
  rw[if_pos rfl];have hc:=ba.frame (H:=[.cells [.str g,.str nm,.vsl 3 x P,.str v,.vsl 0 true Fv,.bool true,.bool m,.str n] false]) (by rfl) (hpt.mono fun o K h=>fa h);refine .vc (by decide) ?_
  repeat'(first|(simp(disch:=first|omega|(simp only[zL];omega))only[go_sem,seval])|(guard_target=~ aj _ _ _ _ _ _ _;refine aj.any _ hc ?_))
  rintro out K (⟨r,rfl,hr,⟨e,rfl⟩,rfl⟩|⟨off,len,wd,cs,opn,rfl,hcs,⟨rfl,rfl,rfl,rfl,rfl⟩,rfl⟩)
  ·repeat'(first|(simp(disch:=first|omega|(simp only[zL];omega))only[go_sem,seval]))
   exact⟨_,rfl,.inl ⟨_,rfl,rfl,.inl ⟨e,rfl,rfl⟩⟩⟩
  ·repeat'(first|(simp(disch:=first|omega|(simp only[zL];omega))only[go_sem,seval]))
   exact⟨_,rfl,.inr ⟨1,0,_,0,_,true,rfl,rfl,az _,.inr ⟨rfl,rfl⟩⟩⟩
 |false=>
  rw[if_neg (by simp)];refine .seq (.vc (by decide) ?_)
  repeat'(first|(simp(disch:=first|omega|(simp only[zL];omega))only[go_sem,seval]))
  refine .seq (.seq (.vc (by decide) ?_))
  repeat'(first|(simp(disch:=first|omega|(simp only[zL];omega))only[go_sem,seval]))
  refine .cond (t:=true) rfl ?_;simp only[if_true];refine .seq (W.own (pre:=[_,_,_]) (rest:=[_]) (by decide) rfl ?_)
  repeat'(first|(simp(disch:=first|omega|(simp only[zL];omega))only[go_sem,seval]))
  refine⟨0,[.str v],ma v,?_⟩
  repeat'(first|(simp(disch:=first|omega|(simp only[zL];omega))only[go_sem,seval]))
  refine .vc (by decide) ?_
  repeat'(first|(simp(disch:=first|omega|(simp only[zL];omega))only[go_sem,seval]))
  exact⟨_,rfl,.inr ⟨1,0,_,0,_,true,rfl,rfl,rfl,.inr ⟨rfl,rfl⟩⟩⟩
def inB(s:Bytes)(l:List Bytes):Bool:=decide (s∈l)
theorem lp{s:Bytes}{l:List Bytes}:inB s l=true↔s∈l:=by simp[inB]
theorem yT(x:Bool)(l:List Bytes)(s:Bytes):ad Tryz.prog 101 [.vsl 0 x (l.map .str),.str s] (.ret (.bool (inB s l))):=by
 have h:=qt x l s;have e:decide (s∈l)=inB s l:=by unfold inB;by_cases q:s∈l<;>simp[q]
 rwa[e]at h
def ua(l:Ln)(k:Kd)(c:List Val):Ln×Bool:=
 if k.many then(l,((cC k l.v).headD []==([]:Bytes))||inB ((cC k l.v).headD []) (bR c (k.fs.headD 0)))
 else if cC k l.v=cI k c then(l,true)
 else({l with v:=Lib.join (dW (cI k c) (gR k l.v)) [59]},!((dW (cI k c) (gR k l.v)).flatten==[]))
theorem zLn(A B:OB)(a b c d:AV)(o:Bool):ao Tryz.prog 46 (.ptr 2 0) [A,B,.cells [a,b,c,d] o]=some (.agg [a,b,c,d]):=by
 simp[sW,ldG]
set_option maxRecDepth 8000 in
theorem yU(l:Ln)(f:Nat)(b:Bool)(n:Bytes)(c:List Val)(hc:c.length=8)(hf:f<8)(hv:l.v.length≤1000000):
    ad Tryz.prog 57 [encS l ⟨[f],b,true⟩ n,.agg (c.map aF)] (.ret (.tup [aw l,.bool (((cC ⟨[f],b,true⟩ l.v).headD []==([]:Bytes))||inB ((cC ⟨[f],b,true⟩ l.v).headD []) (bR c f))])):=by
  have hw:=sf ⟨[f],b,true⟩ c hc (by simp) (by simp[hf]);have hvs:=lh l ⟨[f],b,true⟩ n hv (by simp);obtain⟨s,hs⟩: ∃s,cC ⟨[f],b,true⟩ l.v=[s]:=⟨_,rfl⟩
  obtain⟨u,hu⟩: ∃u,c[f]? =some u:=⟨_,List.getElem?_eq_getElem (by omega)⟩
  rw[hs]at hvs ⊢;rw[iU c f u hu];obtain⟨W0,hW0⟩: ∃W0,W0=cI ⟨[f],b,true⟩ c:=⟨_,rfl⟩
  rw[←hW0]at hw;obtain⟨g,nm,x,ps,v⟩:=l;obtain⟨ux,ul⟩:=u;have hPh:=aB ps;have hch:=br c;obtain⟨P,hP⟩: ∃P,P=ps.map aD:=⟨_,rfl⟩
  simp only[encS,fsV,aw,←hP,List.headD_cons,List.map_cons,List.map_nil]at hvs hw hPh ⊢;have hld1: ∀A B,ao Tryz.prog 27 (.ptr 1 0) [A,.cells (c.map aF) false,B]=some (.agg (c.map aF)):=by
    intro A B;simp[pj,ldG,hc];exact List.take_of_length_le (by simp[hc])
  have hld2: ∀A B,ao Tryz.prog 25 (.ptr 1 f) [A,.cells (c.map aF) false,B]=some (.vsl 0 ux (ul.map .str)):=fun A B=>qp _ 1 f c _ false rfl hu;have hi1: ∀H,ak Tryz.prog 64 (.vsl 0 true [.int .i64 (f:Int)]) (.int .i64 0) H=some (.vptr [.int .i64 (f:Int)]):=fun H=>yy (v:=.int .i64 (f:Int)) rfl rfl H;have hi2: ∀H,ak Tryz.prog 25 (.vsl 0 false [.str s]) (.int .i64 0) H=some (.vptr [.str s]):=fun H=>eJ (v:=.str s) rfl rfl H;have hia:=iv 1 f hf;have hct:=yT ux ul s;by_cases h0:s=[]
  · have h1:(s==([]:Bytes))=true:=by simp[h0]
    rw[h1,Bool.true_or];refine ad.of Tryz.func57 rfl (ab enters Tryz.func57 rfl) (by simp[Tryz.ntmps57]) ?_;show W Tryz.prog 77 0 none _ _ _;refine W.vc (by decide) ?_
    repeat'(first|(simp(disch:=first|omega|(simp only[zL];omega))only[go_sem,seval,hld1,hld2,hi1,hi2,hia,h1])|((with_reducible first|apply aj.pure|apply ar.pure);(with_reducible assumption);(first|rfl|simp only[go_sem,hPh,hch,az])))
    refine W.bw [19] [false,false,false,false,false,false,false,false,false,false,false,false,false,false,false,false,false,false,false,true,false] [] mixed (by kernel_rfl) (by kernel_rfl) (by kernel_rfl) ?_
    repeat'(first|(simp(disch:=first|omega|(simp only[zL];omega))only[go_sem,seval,hld1,hld2,hi1,hi2,hia,h1])|((with_reducible first|apply aj.pure|apply ar.pure);(with_reducible assumption);(first|rfl|simp only[go_sem,hPh,hch,az])))
    exact td 4 46 5 rfl rfl (zLn _ _ _ _ _ _ _) rfl (by simp[AV.hf,AV.hfs,hPh]) rfl
  · have h1:(s==([]:Bytes))=false:=by simp[h0]
    rw[h1,Bool.false_or];generalize inB s ul=q at hct ⊢;refine ad.of Tryz.func57 rfl (ab enters Tryz.func57 rfl) (by simp[Tryz.ntmps57]) ?_;show W Tryz.prog 77 0 none _ _ _;refine W.vc (by decide) ?_
    repeat'(first|(simp(disch:=first|omega|(simp only[zL];omega))only[go_sem,seval,hld1,hld2,hi1,hi2,hia,h1])|((with_reducible first|apply aj.pure|apply ar.pure);(with_reducible assumption);(first|rfl|simp only[go_sem,hPh,hch,az])))
    refine W.bw [19] [false,false,false,false,false,false,false,false,false,false,false,false,false,false,false,false,false,false,false,true,false] [] mixed (by kernel_rfl) (by kernel_rfl) (by kernel_rfl) ?_
    repeat'(first|(simp(disch:=first|omega|(simp only[zL];omega))only[go_sem,seval,hld1,hld2,hi1,hi2,hia,h1])|((with_reducible first|apply aj.pure|apply ar.pure);(with_reducible assumption);(first|rfl|simp only[go_sem,hPh,hch,az])))
    exact td 4 46 5 rfl rfl (zLn _ _ _ _ _ _ _) rfl (by simp[AV.hf,AV.hfs,hPh]) rfl
set_option maxRecDepth 8000 in
theorem yV(l:Ln)(k:Kd)(n:Bytes)(c:List Val)(hc:c.length=8)(hk:k.fs.length≤8)(hf8: ∀f∈k.fs,f<8)(hm:k.many=false)(hv:l.v.length≤1000000)(he:cC k l.v=cI k c):
    ad Tryz.prog 57 [encS l k n,.agg (c.map aF)] (.ret (.tup [aw l,.bool true])):=by
  have hw:=sf k c hc hk hf8;have hvs:=lh l k n hv hk;have heq:=equalS false false (cC k l.v) (cI k c);rw[beq_iff_eq.2 he]at heq;generalize cC k l.v=vs at hvs heq;generalize cI k c=ws at hw heq;obtain⟨fs,b,m⟩:=k;simp only at hm;subst hm;obtain⟨g,nm,x,ps,v⟩:=l;have hPh:=aB ps;have hch:=br c;have hFh:AV.hfs (fs.map fun f:Nat=>AV.int .i64 (f:Int))=true:=by rw[aR,List.all_eq_true];intro v hv;obtain⟨l,_,rfl⟩:=List.mem_map.1 hv;rfl
  obtain⟨P,hP⟩: ∃P,P=ps.map aD:=⟨_,rfl⟩
  obtain⟨Fv,hF⟩: ∃Fv,Fv=fs.map fun f:Nat=>AV.int .i64 (f:Int):=⟨_,rfl⟩
  simp only[encS,fsV,aw,←hP,←hF]at hvs hw hPh hFh ⊢;have hld1: ∀A B,ao Tryz.prog 27 (.ptr 1 0) [A,.cells (c.map aF) false,B]=some (.agg (c.map aF)):=by
    intro A B;simp[pj,ldG,hc];exact List.take_of_length_le (by simp[hc])
  refine ad.of Tryz.func57 rfl (ab enters Tryz.func57 rfl) (by simp[Tryz.ntmps57]) ?_;show W Tryz.prog 77 0 none _ _ _;refine W.vc (by decide) ?_
  repeat'(first|(simp(disch:=first|omega|(simp only[zL];omega))only[go_sem,seval,hld1])|((with_reducible first|apply aj.pure|apply ar.pure);(with_reducible assumption);(first|rfl|simp only[go_sem,hPh,hch,hFh,az])))
  exact td 4 46 5 rfl rfl (zLn _ _ _ _ _ _ _) rfl (by simp[AV.hf,AV.hfs,hPh]) rfl
theorem ub{ws cs:List Bytes}{i:Nat}{s:Bytes}(h:ws[i]? =some s):dW (ws.take (i+1)) cs=if i<(dW (ws.take i) cs).length then(dW (ws.take i) cs).set i (esc s)else(dW (ws.take i) cs++[[]]).set i (esc s):=by
 have hi:=(List.getElem?_eq_some_iff.1 h).1;have hl:(ws.take i).length=i:=by simp;omega
 have hl1:(ws.take (i+1)).length=i+1:=by simp;omega
 have e1:ws.take (i+1)=ws.take i++[s]:=by rw[List.take_add_one,h];rfl
 have hml:=np (ws.take i) cs;unfold dW at hml ⊢;rw[hl]at hml;rw[hl1,e1,hl];have hA:((ws.take i).map esc).length=i:=by simp;omega
 by_cases hc:i<cs.length
 ·rw[if_pos (by rw[hml];omega),List.set_append_right _ _ (by omega),hA,Nat.sub_self]
  obtain⟨p,hp,hd⟩:=drop_at hc;rw[hd];simp
 ·rw[if_neg (by rw[hml];omega)]
  have d1:cs.drop i=[]:=List.drop_of_length_le (by omega);have d2:cs.drop (i+1)=[]:=List.drop_of_length_le (by omega);rw[d1,d2,List.append_nil,List.append_nil,List.set_append_right _ _ (by omega),hA,Nat.sub_self];simp
theorem lq{l:List Bytes}{b:Nat}(h:∀p∈l,p.length≤b):l.flatten.length≤b*l.length:=by
 induction l with
 |nil=>simp
 |cons a l ih=>
  have h1:=h a (by simp);have h2:=ih fun p hp=>h p (by simp[hp]);rw[List.flatten_cons,List.length_append,List.length_cons,Nat.mul_add];omega
theorem lr(s:Bytes):∀l:List Bytes,(Lib.join l s).length≤l.flatten.length+s.length*l.length
 | []=>by simp[Lib.join,List.intercalate]
 | [u]=>by simp[Lib.join,List.intercalate]
 |u::v::t=>by
  have:=lr s (v::t);rw[EY,List.length_append,List.length_append];simp only[List.flatten_cons,List.length_append,List.length_cons,Nat.mul_add]at this ⊢;omega
theorem E5{ws cs:List Bytes}{b:Nat}(h1:∀w∈ws,w.length≤b)(h2:∀p∈cs,p.length≤b):∀p∈dW ws cs,p.length≤2*b:=by
 intro p hp;rcases List.mem_append.1 hp with h|h
 ·obtain⟨w,hw,rfl⟩:=List.mem_map.1 h
  have:=ni w;have:=h1 w hw;omega
 ·have:=h2 p (List.mem_of_mem_drop h);omega
theorem E6(k:Kd)(v:Bytes):gR k v≠ []:=by
 unfold gR;split
 ·exact js _ _ _ _
 ·simp
set_option maxRecDepth 8000 in
theorem Cb (l:Ln) (k:Kd) (n:Bytes) (c:List Val) (hc:c.length=8) (hk:k.fs.length≤8) (hf8: ∀f∈k.fs,f<8) (hm:k.many=false) (hv:l.v.length≤900000) (he:cC k l.v≠cI k c) (hwb: ∀w∈cI k c,w.length≤1000000):
    ad Tryz.prog 57 [encS l k n,.agg (c.map aF)] (.ret (.tup [aw {l with v:=Lib.join (dW (cI k c) (gR k l.v)) [59]},.bool (!((dW (cI k c) (gR k l.v)).flatten==[]))])):=by
  have hw:=sf k c hc hk hf8;have hv1:l.v.length≤1000000:=by omega
  have hvs:=lh l k n hv1 hk;have heq:=equalS false false (cC k l.v) (cI k c);rw[beq_eq_false_iff_ne.2 he]at heq;have hct:=MM l k n hv1;have hcne:=E6 k l.v;have hcb: ∀p∈gR k l.v,p.length≤1000000:=fun p hp=>Nat.le_trans (tX hp) hv1;have hcl:(gR k l.v).length≤900001:=by have:=BW k l.v;omega
  have hwl:(cI k c).length≤8:=by simpa[cI]using hk
  clear he;generalize cC k l.v=vs at hvs heq;generalize cI k c=ws at hw heq hwb hwl ⊢;generalize gR k l.v=cs at hct hcne hcb hcl ⊢;have hmb:=E5 hwb hcb;have hml:=np ws cs;have hfb:=lq hmb;have hjb:=lr [59] (dW ws cs);simp only[List.length_cons,List.length_nil,Nat.zero_add,Nat.one_mul]at hjb;have hjv:=xG false (dW ws cs) [59] (by omega) (by omega);have hev:=B3 false (dW ws cs) (by omega) (by omega);obtain⟨fs,b,m⟩:=k;simp only at hm;subst hm;obtain⟨g,nm,x,ps,v⟩:=l;have hPh:=aB ps;have hch:=br c
  have hFh:AV.hfs (fs.map fun f:Nat=>AV.int .i64 (f:Int))=true:=by rw[aR,List.all_eq_true];intro v hv;obtain⟨l,_,rfl⟩:=List.mem_map.1 hv;rfl
  obtain⟨P,hP⟩: ∃P,P=ps.map aD:=⟨_,rfl⟩
  obtain⟨Fv,hF⟩: ∃Fv,Fv=fs.map fun f:Nat=>AV.int .i64 (f:Int):=⟨_,rfl⟩
  simp only[encS,fsV,aw,←hP,←hF]at hvs hw hct hPh hFh ⊢;have hld1: ∀A B,ao Tryz.prog 27 (.ptr 1 0) [A,.cells (c.map aF) false,B]=some (.agg (c.map aF)):=by
    intro A B;simp[pj,ldG,hc];exact List.take_of_length_le (by simp[hc])
  have hln: ∀o n M,aI Tryz.prog 25 (.sl o 0 n 0) M=some (.int .i64 n):=by intro o n M;simp[aI,Tryz.underlying25]
  have hlw: ∀M,aI Tryz.prog 25 (.vsl 0 false (ws.map .str)) M=some (.int .i64 ws.length):=by intro M;simp[aI,Tryz.underlying25]
  obtain⟨A,hA⟩: ∃A:List AV,A=[.str g,.str nm,.vsl 3 x P,.str v,.vsl 0 true Fv,.bool b,.bool false,.str n]:=⟨_,rfl⟩
  obtain⟨Z,hZ⟩: ∃Z:List AV,Z=[.str [],.str [],.nilsl,.str []]:=⟨_,rfl⟩
  have hfr:=ba.frame (H:=[.cells [.str g,.str nm,.vsl 3 x P,.str v,.vsl 0 true Fv,.bool b,.bool false,.str n] false,.cells (c.map aF) false,.cells [.str [],.str [],.nilsl,.str []] false]) (by simp[AV.hfs,AV.hf,hPh,hFh]) (hct.mono fun o K h=>fa h);refine ad.of Tryz.func57 rfl (ab enters Tryz.func57 rfl) (by simp[Tryz.ntmps57]) ?_;show W Tryz.prog 77 0 none _ _ _;refine W.vc (by decide) ?_
  repeat'(first|(simp(disch:=first|omega|(simp only[zL];omega))only[go_sem,seval,hld1,hlw])|(guard_target=~ aj _ _ _ _ _ _ _;refine aj.any _ hfr ?_)|((with_reducible first|apply aj.pure|apply ar.pure);(with_reducible assumption);(first|rfl|simp only[go_sem,hPh,hch,hFh,az])))
  rintro out K (⟨r,rfl,hr,⟨e,rfl⟩,rfl⟩|⟨off,len,wd,cells,opn,rfl,hcs,⟨rfl,rfl,rfl,rfl,rfl⟩,rfl⟩)
  · exact(hcne e).elim
  simp only[List.length_cons,List.length_nil,List.cons_append,List.nil_append,Nat.zero_add,←hA,←hZ]
  repeat'(first|(simp(disch:=first|omega|(simp only[zL];omega))only[go_sem,seval,hlw]))
  have hp0:dW (ws.take 0) cs=cs:=by simp[dW]
  refine W.loop (X:=Nat) (fun i a=> ∃d,aC a.T [(8,.sl d 0 (dW (ws.take i) cs).length 0),(48,.vsl 0 false (ws.map .str)),(49,.int .i64 ws.length),(50,.int .i64 (i:Int)),(2,.ptr 0 0),(4,.ptr 2 0)]∧a.H[0]? =some (.cells A false)∧a.H[2]? =some (.cells Z false)∧
    a.H[d]? =some (.cells ((dW (ws.take i) cs).map .str) true)∧a.D=[]∧i≤ws.length) (fun i=>ws.length - i) 0 ⟨3,⟨by rw[hp0];rfl,rfl,rfl,rfl,rfl,rfl,trivial⟩,rfl,rfl,by rw[hp0];rfl,rfl,Nat.zero_le _⟩ ?_
  rintro i ⟨T,M,D⟩ ⟨d,h1,h2,h3,h4,rfl,h5⟩;simp only at h1 h2 h3 h4 h5;refine W.bG _ h1 (.vc (by decide) ?_);have l4:=(List.getElem?_eq_some_iff.1 h4).1;have hd0:d≠0:=by rintro rfl;injection(Option.some.inj (h4.symm.trans h2))with _ h;cases h
  have hd2:d≠2:=by rintro rfl;injection(Option.some.inj (h4.symm.trans h3))with _ h;cases h
  have hmi:=np (ws.take i) cs;by_cases h:i<ws.length
  · obtain⟨s,hs,_⟩:=drop_at h
    have hstep:=ub (cs:=cs) hs;have hti:(ws.take i).length=i:=by simp;omega
    rw[hti]at hmi;generalize hp:dW (ws.take i) cs=p at hstep hmi h4 ⊢;have hiw: ∀H,ak Tryz.prog 25 (.vsl 0 false (ws.map .str)) (.int .i64 (i:Int)) H=some (.vptr [.str s]):=fun H=>eJ (v:=.str s) (by simp[hs]) rfl H;have hes:=IB s (hwb s (List.mem_of_getElem? hs));by_cases hq:i<p.length
    · rw[if_pos hq]at hstep
      have hpl:(dW (ws.take (i+1)) cs).length=p.length:=by rw[hstep];simp
      have hia:=gz (d:=d) 0 p.length i hq;have hst:=oM (opn:=true) l4 (c:=p) hq (esc s);rw[iX h4]at hst
      repeat'(first|(simp(disch:=first|omega|(simp only[zL];omega))only[go_sem,seval,hln,hiw,hia,hst])|((with_reducible first|apply aj.pure|apply ar.pure);(with_reducible exact hes);(first|rfl|simp only[go_sem])))
      refine⟨i+1,⟨d,⟨by rw[hpl];rfl,rfl,rfl,rfl,rfl,rfl,trivial⟩,?_,?_,?_,h⟩,by omega⟩
      · rw[ew,List.getElem?_set_ne hd0];exact h2
      · rw[ew,List.getElem?_set_ne hd2];exact h3
      · rw[iW l4,hstep]
    · rw[if_neg hq]at hstep
      have hpl:(dW (ws.take (i+1)) cs).length=p.length+1:=by rw[hstep];simp
      have hap:=rY M d p (.vsl 0 true [.str []]) [[]] h4 (fV M true [[]]) (by simp;omega) (by simp);obtain⟨M2,hM2⟩: ∃M2,M2=M.set d .dead++[.cells ((p++[[]]).map .str) true]:=⟨_,rfl⟩
      rw[←hM2]at hap;have l2:M.length<M2.length:=by rw[hM2];simp
      have g2:M2[M.length]? =some (.cells ((p++[[]]).map .str) true):=by rw[hM2];simp
      have gk: ∀j,j<M.length→j≠d→M2[j]? =M[j]? :=by
        intro j hj hjd;rw[hM2,List.getElem?_append_left (by simpa using hj),List.getElem?_set_ne (by omega)]
      have l0:=(List.getElem?_eq_some_iff.1 h2).1;have l20:=(List.getElem?_eq_some_iff.1 h3).1;have hia:=gz (d:=M.length) 0 (p.length+1) i (by omega);have hst:=oM (opn:=true) l2 (c:=p++[[]]) (i:=i) (by simp;omega) (esc s);rw[iX g2]at hst;simp only[List.length_cons,List.length_nil,Nat.zero_add]at hap
      repeat'(first|(simp(disch:=first|omega|(simp only[zL];omega))only[go_sem,seval,hln,hiw,ma,hap,hia,hst])|((with_reducible first|apply aj.pure|apply ar.pure);(with_reducible exact hes);(first|rfl|simp only[go_sem])))
      refine⟨i+1,⟨M.length,⟨by rw[hpl];rfl,rfl,rfl,rfl,rfl,rfl,trivial⟩,?_,?_,?_,h⟩,by omega⟩
      · rw[ew,List.getElem?_set_ne (by omega),gk 0 l0 (by omega)];exact h2
      · rw[ew,List.getElem?_set_ne (by omega),gk 2 l20 (by omega)];exact h3
      · rw[iW l2,hstep]
  · have e:i=ws.length:=by omega
    subst e;rw[List.take_length]at h4 hmi ⊢;generalize hp:dW ws cs=p at h4 hmi hjv hev ⊢;have hle: ∀j,aG M [.sl d 0 p.length 0,.str [59]] (.ret (.str j))=some [.vsl 0 false (p.map .str),.str [59]]:=by
      intro j;refine ed rfl rfl ?_;have:=iY (k:=19) h4 (Nat.le_refl _);rw[List.take_length]at this;simp only[List.mapM_cons,List.mapM_nil,this,dj (show AV.hf (.str [59])=true from rfl)];rfl
    generalize hj:Lib.join p [59]=j at hjv ⊢;generalize hq:(p.flatten==[])=q at hev ⊢;have l0:=(List.getElem?_eq_some_iff.1 h2).1;obtain⟨M2,hM2⟩: ∃M2,M2=M.set 0 (.cells [.str g,.str nm,.vsl 3 x P,.str j,.vsl 0 true Fv,.bool b,.bool false,.str n] false):=⟨_,rfl⟩
    have g0:M2[0]? =some (.cells [.str g,.str nm,.vsl 3 x P,.str j,.vsl 0 true Fv,.bool b,.bool false,.str n] false):=by rw[hM2,List.getElem?_set_self l0]
    have g2:M2[2]? =some (.cells Z false):=by rw[hM2,List.getElem?_set_ne (by omega)];exact h3
    have gd:M2[d]? =some (.cells (p.map .str) true):=by rw[hM2,List.getElem?_set_ne (by omega)];exact h4
    have l2:=(List.getElem?_eq_some_iff.1 g2).1;have k1:aA Tryz.prog 9 (.ptr 0 3) (.str j) M=some M2:=by
      rw[st9];simp only[stC,h2,hA];simp[AV.cells,AV.isC,cz,hM2]
    have k2:ao Tryz.prog 46 (.ptr 0 0) M2=some (.agg [.str g,.str nm,.vsl 3 x P,.str j]):=by
      simp[sW,ldG,g0]
    have k3:aA Tryz.prog 46 (.ptr 2 0) (.agg [.str g,.str nm,.vsl 3 x P,.str j]) M2=some (M2.set 2 (.cells [.str g,.str nm,.vsl 3 x P,.str j] false)):=by
      rw[GC];simp only[stC,g2,hZ];simp[AV.cells,AV.isC,cz]
    have k4:ao Tryz.prog 46 (.ptr 2 0) (M2.set 2 (.cells [.str g,.str nm,.vsl 3 x P,.str j] false))=some (.agg [.str g,.str nm,.vsl 3 x P,.str j]):=by
      simp[sW,ldG,List.getElem?_set_self l2]
    have hle2:aG M2 [.sl d 0 p.length 0] (.ret (.bool q))=some [.vsl 0 false (p.map .str)]:=by
      refine ed rfl rfl ?_;have:=iY (k:=19) gd (Nat.le_refl _);rw[List.take_length]at this;simp only[List.mapM_cons,List.mapM_nil,this];rfl
    have hle1:=hle j
    repeat'(first|(simp(disch:=first|omega|(simp only[zL];omega))only[go_sem,seval,k1])|(guard_target=~ aj _ _ _ _ _ _ _;refine aj.aG _ hjv hle1 ?_))
    refine W.bw [5] [false,false,false,false,false,true,false] [] mixed (by kernel_rfl) (by kernel_rfl) (by kernel_rfl) ?_
    repeat'(first|(simp(disch:=first|omega|(simp only[zL];omega))only[go_sem,seval,k2,k3])|(guard_target=~ ar _ _ _ _ _ _ _;refine ar.aG _ hev hle2 ?_))
    exact td 4 46 5 rfl rfl k4 rfl (by simp[AV.hf,AV.hfs,hPh]) rfl
/-! ### Plain -/
def nz(s:Bytes):List Bytes:=if s=[]then []else [s]
def xsP(ls:List Ln)(f:Nat):List Bytes:=ls.flatMap fun l=>nz (bI l f)
def oP(acc:List Bytes)(l:Ln):List Bytes:=match aV (small l.n)with
 |some _=>if small l.n∈acc then acc else acc++[small l.n]
 |none=>acc
def cR(ls:List Ln):List Bytes:=ls.foldl oP []
def yW(ls:List Ln)(l:Ln):Bool:=match aV (small l.n)with
 |some k=>inB (small l.n) (cR ls)&& !k.many
 |none=>false
def okP(ls:List Ln)(i:Nat):Bool:=match ls[i]? with
 |some l=>!(yW (ls.take i) l)
 |none=>true
theorem oQ{ls:List Ln}{i:Nat}{l:Ln}(h:ls[i]? =some l)(f:Nat):xsP (ls.take (i+1)) f=xsP (ls.take i) f++nz (bI l f):=by
 rw[List.take_add_one,h,xsP,List.flatMap_append];simp[xsP]
theorem oR{ls:List Ln}{i:Nat}{l:Ln}(h:ls[i]? =some l):cR (ls.take (i+1))=oP (cR (ls.take i)) l:=by
 rw[List.take_add_one,h,cR,List.foldl_append];rfl
theorem vS(s:Bytes):(nz s).length≤1:=by unfold nz;split<;>simp
theorem sm(ls:List Ln)(f:Nat):(xsP ls f).length≤ls.length:=by
 induction ls with
 |nil=>simp[xsP]
 |cons l ls ih=>have:=vS (bI l f);simp only[xsP,List.flatMap_cons,List.length_append,List.length_cons]at ih ⊢;omega
def jz(xs:Nat→List Bytes)(l:Ln)(fs:List Nat):Nat→List Bytes:=fun f=>if f∈fs then xs f++nz (bI l f)else xs f
theorem Cc(xs:Nat→List Bytes)(l:Ln):jz xs l []=xs:=by funext f;simp[jz]
theorem Ce{l:Ln}{k:Kd}(h:aV (small l.n)=some k)(xs:Nat→List Bytes):jz xs l k.fs=fun f=>xs f++nz (bI l f):=by
 funext f;unfold jz;by_cases hf:f∈k.fs
 ·rw[if_pos hf]
 ·rw[if_neg hf,BH h hf];simp[nz]
theorem lu{n:Bytes}{k:Kd}(h:aV n=some k):k.fs.length≤2∧(∀f∈k.fs,f<8)∧k.fs.Nodup∧k.fs≠ []∧(k.many=true→∃f,k.fs=[f]∧6≤f):=by
 have hk:=kn n;rw[h]at hk;cases hk<;>exact⟨by decide,by decide,by decide,by decide,by first|(intro h;cases h;done)|exact fun _=>⟨_,rfl,by decide⟩⟩
theorem yX{xs:Nat→List Bytes}{l:Ln}{fs:List Nat}{j f:Nat}(hn:fs.Nodup)(hj:fs[j]? =some f):jz xs l (fs.take (j+1))=ll (jz xs l (fs.take j)) f (jz xs l (fs.take j) f++nz (bI l f)):=by
 have hnot:f∉fs.take j:=by
  intro hm;obtain⟨i,hi⟩:=List.getElem?_of_mem hm;have hij:i<j:=by have:=(List.getElem?_eq_some_iff.1 hi).1;simp at this;omega
  rw[List.getElem?_take_of_lt hij]at hi;have hl:=(List.getElem?_eq_some_iff.1 hj).1;have hil:=(List.getElem?_eq_some_iff.1 hi).1;have e1:=(List.getElem?_eq_some_iff.1 hi).2;have e2:=(List.getElem?_eq_some_iff.1 hj).2;exact List.pairwise_iff_getElem.1 hn i j hil hl hij (e1.trans e2.symm)
 have e:fs.take (j+1)=fs.take j++[f]:=by rw[List.take_add_one,hj];rfl
 funext g;unfold ll jz;rw[e];by_cases hg:g=f
 ·subst hg
  simp[hnot]
 ·rw[if_neg hg]
  simp[hg]
theorem yY(xs:Nat→List Bytes)(f:Nat):ll xs f (xs f)=xs:=by
 funext g;unfold ll;split
 ·rename_i h;rw[h]
 ·rfl
/-! ### A map of names -/
theorem Cf(n:Bytes):∀(ks:List Bytes) (i:Nat),(n∉ks∧fj .string (.str n) (ks.map .str) i=some none)∨∃j,ks[j]? =some n∧fj .string (.str n) (ks.map .str) i=some (some (i+j))
 | [],i=>.inl ⟨by simp,rfl⟩
 | k::ks,i=>by
  rw[List.map_cons,fj,iE];cases h:(n==k)with
  |true=>
   have e:n=k:=by simpa using h
   exact .inr ⟨0,by simp[e],rfl⟩
  |false=>
   have e:n≠k:=by simpa using h
   rcases Cf n ks (i+1)with⟨h1,h2⟩|⟨j,h1,h2⟩
   ·exact .inl ⟨by simp[e,h1],h2⟩
   ·exact .inr ⟨j+1,by simpa using h1,by simp only[h2];congr 2;omega⟩
def ly(ks:List Bytes):OB:=.map (ks.map .str) (List.replicate ks.length (.bool true))
theorem jt{H:List OB}{id:Nat}{ks:List Bytes}(h:H[id]? =some (ly ks))(n:Bytes):dA Tryz.prog 60 (.map id) (.str n) false H=some (.bool (inB n ks)):=by
 have hz:bS Tryz.prog 4=some (.bool false):=by kernel_rfl
 simp only[dA,Tryz.underlying60,Tryz.underlying9,hz,nD,if_true,h,ly];rcases Cf n ks 0 with⟨h1,h2⟩|⟨j,h1,h2⟩
 ·rw[h2]
  have:inB n ks=false:=by rw[Bool.eq_false_iff];exact fun e=>h1 (lp.1 e)
  simp[this]
 ·rw[h2,Nat.zero_add]
  have hj:=(List.getElem?_eq_some_iff.1 h1).1;have:inB n ks=true:=lp.2 (List.mem_of_getElem? h1);simp[this,hj]
theorem uc{H:List OB}{id:Nat}{ks:List Bytes}(h:H[id]? =some (ly ks))(n:Bytes):eU Tryz.prog 60 (.map id) (.str n) (.bool true) H=some (H.set id (ly (if n∈ks then ks else ks++[n]))):=by
 simp only[eU,Tryz.underlying60,Tryz.underlying9,nD,if_true,h,ly];rcases Cf n ks 0 with⟨h1,h2⟩|⟨j,h1,h2⟩
 ·rw[h2,if_neg h1]
  simp[List.replicate_succ']
 ·rw[h2,Nat.zero_add,if_pos (List.mem_of_getElem? h1)]
  have:(List.replicate ks.length (AV.bool true)).set j (.bool true)=List.replicate ks.length (.bool true):=by
   apply List.ext_getElem?;intro i;rw[List.getElem?_set];split
   ·rename_i e
    subst e;split<;>simp_all
   ·rfl
  simp only[this]
/-! ### A round -/
noncomputable def asO:Code:=match Tryz.f15.body with
 |some (.seq _ (.scope (.seq _ (.seq _ (.seq (.seq _ (.block _ (.rangeFunc _ _ a _))) _)))))=>a
 |_=>.skip
noncomputable def bdO:Code:=match Tryz.f15.body with
 |some (.seq _ (.scope (.seq _ (.seq _ (.seq (.seq _ (.block _ (.rangeFunc _ _ _ b))) _)))))=>b
 |_=>.skip
noncomputable def lkO:cW:=⟨89,#[18,19],asO,bdO,.ready,none⟩
noncomputable def kbO:cW:=⟨89,#[18,19],asO,bdO,.busy,none⟩
noncomputable def kgO:cW:=⟨89,#[18,19],asO,bdO,.done,some (.goto 0)⟩
def jO(ls:List Ln)(i:Nat)(K:List OB):Prop:=
 (∃vs,bL K 1 vs (xsP (ls.take i)))∧K[2]? =some (ly (cR (ls.take i)))∧K[3]? =some (.cells [.map 2] false)∧K[4]? =some .dfr∧∃T,K[5]? =some (.loop T lkO)∧aC T [(2,.ptr 1 0),(4,.ptr 3 0)]
def bO(K:List OB):Prop:=(∃vs xs,bL K 1 vs xs)∧K[4]? =some .dfr∧∃T,K[5]? =some (.loop T kgO)
theorem E7{ls:List Ln}{i:Nat}{K:List OB}(M:List OB)(h:jO ls i K):jO ls i (K++M):=by
 obtain⟨⟨vs,h1⟩,h2,h3,h4,T,h5,h6⟩:=h;exact⟨⟨vs,h1.more M⟩,aZ h2,aZ h3,aZ h4,T,aZ h5,h6⟩
noncomputable def mL(l:Ln)(p:List OB×List AV)(f:Nat):List OB×List AV:=
 if bI l f=[]then p else match aE Tryz.prog 25 25 (deN (p.2[f]?.getD .junk)) (.vsl 0 true [.str (bI l f)]) p.1 with
  |some (v,M)=>(M.set 1 (.cells (p.2.set f v) false),p.2.set f v)
  |none=>p
noncomputable def pD(l:Ln)(p:List OB×List AV)(fs:List Nat):List OB×List AV:=fs.foldl (mL l) p
def mM(H K:List OB):Prop:=H.length≤K.length∧∀i o,i≠1→H[i]? =some o→(∀cs,o≠ .cells cs true)→K[i]? =some o
theorem mM.refl(H:List OB):mM H H:=⟨Nat.le_refl _,fun _ _ _ h _=>h⟩
theorem mM.trans{A B C:List OB}(h:mM A B)(k:mM B C):mM A C:=⟨Nat.le_trans h.1 k.1,fun i o hi ho hn=>k.2 i o hi (h.2 i o hi ho hn) hn⟩
theorem Cg{l:Ln}{p:List OB×List AV}{xs:Nat→List Bytes}{f:Nat}(h:bL p.1 1 p.2 xs)(hf:f<8)(hx:(xs f).length<1000000):
    bL (mL l p f).1 1 (mL l p f).2 (ll xs f (xs f++nz (bI l f)))∧mM p.1 (mL l p f).1:=by
  unfold mL nz;by_cases hs:bI l f=[]
  · rw[if_pos hs,if_pos hs,List.append_nil,yY]
    exact⟨h,.refl _⟩
  · rw[if_neg hs,if_neg hs]
    obtain⟨v,M,hv,_,hap,_,hc,hl,hk⟩:=h.app hf (bI l f) hx;rw[hv,Option.getD_some,hap];refine⟨hc,by simp;omega,fun i o hi ho hn=> ?_⟩;simp only;rw[List.getElem?_set_ne (by omega),hk i (List.getElem?_eq_some_iff.1 ho).1 (h.free ho hn)];exact ho
theorem qz(l:Ln)(p:List OB×List AV){fs:List Nat}{j f:Nat}(hj:fs[j]? =some f):pD l p (fs.take (j+1))=mL l (pD l p (fs.take j)) f:=by
 unfold pD;rw[List.take_add_one,hj,List.foldl_append];simp only[Option.toList_some,List.foldl_cons,List.foldl_nil]
theorem xL{l:Ln}{p:List OB×List AV}{xs:Nat→List Bytes}{fs:List Nat}(hn:fs.Nodup)(hf: ∀f∈fs,f<8)(h:bL p.1 1 p.2 xs)(hx: ∀f,(xs f).length<999999): ∀j,j≤fs.length→
    bL (pD l p (fs.take j)).1 1 (pD l p (fs.take j)).2 (jz xs l (fs.take j))∧mM p.1 (pD l p (fs.take j)).1
  |0,_=>by rw[List.take_zero,Cc];exact⟨h,.refl _⟩
  | j +1,hj=>by
    obtain⟨ih1,ih2⟩:=xL hn hf h hx j (by omega);obtain⟨f,hf1⟩: ∃f,fs[j]? =some f:=⟨_,List.getElem?_eq_getElem (by omega)⟩
    have hb:(jz xs l (fs.take j) f).length<1000000:=by
      have:=hx f;have:=vS (bI l f);unfold jz;split
      · rw[List.length_append];omega
      · omega
    obtain⟨q1,q2⟩:=Cg (l:=l) ih1 (hf f (List.mem_of_getElem? hf1)) hb;rw[qz l p hf1,yX hn hf1];exact⟨q1,ih2.trans q2⟩
theorem lz(k:Kd):kdL (some k)=[fsV k,.bool k.parts,.bool k.many]:=rfl
set_option maxRecDepth 8000 in
theorem yZ(ls:List Ln)(i:Nat)(l:Ln)(K:List OB)(hl:ls[i]? =some l)(hk:aV (small l.n)=none)(hJ:jO ls i K):
    ∃K',YFn Tryz.prog 5 [dF l,.bool false] K (.ret (.bool true)) K'∧jO ls (i+1) K':=by
  obtain⟨⟨vs,h1⟩,h2,h3,h4,T,h5,h6⟩:=hJ;have l5:=(List.getElem?_eq_some_iff.1 h5).1;have hx:xsP (ls.take (i+1))=xsP (ls.take i):=by funext f;rw[oQ hl,yK hk];simp[nz]
  have hs:cR (ls.take (i+1))=cR (ls.take i):=by rw[oR hl,oP,hk]
  obtain⟨S,hS⟩: ∃S:List AV,S=[.str l.g,.str l.n,.vsl 3 l.x (l.ps.map aD),.str l.v,.nilsl,.bool false,.bool false,.str (small l.n)]:=⟨_,rfl⟩
  have hsd:dF l=.agg S:=by rw[dF,hk,hS];rfl
  have hSc:(AV.agg S).cells=S:=by rw[hS];rfl
  obtain⟨M,hM⟩: ∃M,M=(K++[OB.cells S false]).set 5 (.loop T kbO):=⟨_,rfl⟩
  have gM5:M[5]? =some (.loop T kbO):=by rw[hM,List.getElem?_set_self (by simp;omega)]
  refine⟨M.set 5 (.loop T lkO),?_,?_⟩
  · refine YFn.of h5 (by simp[lkO]) fun l'=> ?_
    show W Tryz.prog 89 _ _ (.seq (.region 5 _ _) (.region 6 _ _)) _ ⟨(19,.bool false)::(18,dF l)::T,K,[]⟩;have hst:aA Tryz.prog 68 (.ptr K.length 0) (.agg S) (K++[.cells [.str [],.str [],.nilsl,.str [],.nilsl,.bool false,.bool false,.str []] false])=some (K++[.cells S false]):=by
      rw[GW];simp only[stC,List.getElem?_concat_length,hSc];rw[if_pos ⟨by rw[hS];rfl,by simp,by rw[hS];rfl⟩,hS];simp[cz]
    rw[hsd];refine .vc (by decide) ?_
    repeat'(first|(simp(disch:=first|omega|(simp only[zL];omega))only[go_sem,seval,hst]))
    refine⟨T,lkO,aZ h5,rfl,?_⟩;rw[show({lkO with st:=.busy}:cW)=kbO from rfl];show W Tryz.prog 89 _ _ (.block 1 (.seq (.seq (.region 7 _ _) _) _)) _ ⟨_,(K++[OB.cells S false]).set 5 _,_⟩;rw[←hM];refine .vc (by decide) ?_
    repeat'(first|(simp(disch:=first|omega|(simp only[zL];omega))only[go_sem,seval]))
    exact⟨T,kbO,gM5,rfl,rfl⟩
  · have g: ∀j o,j≠5→K[j]? =some o→(M.set 5 (.loop T lkO))[j]? =some o:=by
      intro j o hj ho;rw[List.getElem?_set_ne (by omega),hM,List.getElem?_set_ne (by omega)];exact aZ ho
    refine⟨⟨vs,?_⟩,by rw[hs];exact g 2 _ (by omega) h2,g 3 _ (by omega) h3,g 4 _ (by omega) h4,T,?_,h6⟩
    · rw[hx,hM]
      have hfr:=h1.free h5 (fun cs e=>by cases e);exact((h1.more [OB.cells S false]).set _ (by omega) hfr).set _ (by omega) hfr
    · rw[List.getElem?_set_self (by rw[hM];simp;omega)]
theorem IC{ls:List Ln}{i:Nat}{l:Ln}{k:Kd}(hl:ls[i]? =some l)(hk:aV (small l.n)=some k):cR (ls.take (i+1))=if small l.n∈cR (ls.take i)then cR (ls.take i)else cR (ls.take i)++[small l.n]:=by
 rw[oR hl,oP,hk]
theorem sn{K:List OB}{S:List AV}(h:S.length=8)(hc:S.all AV.isC=true)(hS:(AV.agg S).cells=S):aA Tryz.prog 68 (.ptr K.length 0) (.agg S) (K++[.cells [.str [],.str [],.nilsl,.str [],.nilsl,.bool false,.bool false,.str []] false])=some (K++[.cells S false]):=by
 rw[GW];simp only[stC,List.getElem?_concat_length,hS];rw[if_pos ⟨h,by simp,hc⟩,kO _ _ _ (by simp[h])];simp
set_option maxRecDepth 8000 in
theorem vT(ls:List Ln)(i:Nat)(l:Ln)(k:Kd)(K:List OB)(hl:ls[i]? =some l)(hk:aV (small l.n)=some k)(hb:inB (small l.n) (cR (ls.take i))=true)(hm:k.many=false)(hJ:jO ls i K):
    ∃K',YFn Tryz.prog 5 [dF l,.bool true] K (.ret (.bool false)) K'∧bO K':=by
  obtain⟨⟨vs,h1⟩,h2,h3,h4,T,h5,h6⟩:=hJ;have l5:=(List.getElem?_eq_some_iff.1 h5).1;obtain⟨S,hS⟩: ∃S:List AV,S=[.str l.g,.str l.n,.vsl 3 l.x (l.ps.map aD),.str l.v,fsV k,.bool k.parts,.bool false,.str (small l.n)]:=⟨_,rfl⟩
  have hsd:dF l=.agg S:=by rw[dF,hk,hS,lz,hm];rfl
  have hSc:(AV.agg S).cells=S:=by rw[hS];rfl
  obtain⟨M,hM⟩: ∃M,M=(K++[OB.cells S false]).set 5 (.loop T kbO):=⟨_,rfl⟩
  have gM5:M[5]? =some (.loop T kbO):=by rw[hM,List.getElem?_set_self (by simp;omega)]
  have g: ∀j o,j≠5→K[j]? =some o→M[j]? =some o:=by
    intro j o hj ho;rw[hM,List.getElem?_set_ne (by omega)];exact aZ ho
  have gS:M[K.length]? =some (.cells S false):=by rw[hM,List.getElem?_set_ne (by omega),List.getElem?_concat_length]
  refine⟨M.set 5 (.loop T kgO),?_,?_⟩
  · refine YFn.of h5 (by simp[lkO]) fun l'=> ?_
    show W Tryz.prog 89 _ _ (.seq (.region 5 _ _) (.region 6 _ _)) _ ⟨(19,.bool true)::(18,dF l)::T,K,[]⟩;have hst:=sn (K:=K) (S:=S) (by rw[hS];rfl) (by rw[hS];rfl) hSc;rw[hsd];refine .vc (by decide) ?_
    repeat'(first|(simp(disch:=first|omega|(simp only[zL];omega))only[go_sem,seval,hst]))
    refine⟨T,lkO,aZ h5,rfl,?_⟩;rw[show({lkO with st:=.busy}:cW)=kbO from rfl];show W Tryz.prog 89 _ _ (.block 1 (.seq (.seq (.region 7 _ _) _) _)) _ ⟨(6,.bool true)::(5,.ptr K.length 0)::(19,.bool true)::(18,.agg S)::T,(K++[OB.cells S false]).set 5 _,_⟩;rw[←hM];obtain⟨e2,e4,_⟩:=h6;refine W.bG [(6,.bool true),(5,.ptr K.length 0),(2,.ptr 1 0),(4,.ptr 3 0)] ⟨rfl,rfl,by simpa[Av.get]using e2,by simpa[Av.get]using e4,trivial⟩ ?_;have k1:ao Tryz.prog 60 (.ptr 3 0) M=some (.map 2):=by simp[yp,ldC,g 3 _ (by omega) h3]
    have k2:ao Tryz.prog 9 (.ptr K.length 7) M=some (.str (small l.n)):=by simp[ld9,ldC,gS,hS]
    have k3:=jt (g 2 _ (by omega) h2) (small l.n);rw[hb]at k3;have k4:ao Tryz.prog 4 (.ptr K.length 6) M=some (.bool false):=by simp[ld4,ldC,gS,hS]
    refine .vc (by decide) ?_
    repeat'(first|(simp(disch:=first|omega|(simp only[zL];omega))only[go_sem,seval,k1,k2,k3,k4]))
    exact⟨T,kbO,gM5,rfl,rfl⟩
  · have hfr:=h1.free h5 (fun cs e=>by cases e)
    refine⟨⟨vs,xsP (ls.take i),?_⟩,?_,T,by rw[List.getElem?_set_self (by rw[hM];simp;omega)]⟩
    · rw[hM]
      exact((h1.more [OB.cells S false]).set _ (by omega) hfr).set _ (by omega) hfr
    · rw[List.getElem?_set_ne (by omega)];exact g 4 _ (by omega) h4
set_option maxRecDepth 8000 in
theorem vU (ls:List Ln) (i:Nat) (l:Ln) (k:Kd) (K:List OB) (hl:ls[i]? =some l) (hi:i<900000) (hv:l.v.length≤1000000) (hk:aV (small l.n)=some k) (hb:(inB (small l.n) (cR (ls.take i))&& !k.many)=false) (hJ:jO ls i K):
    ∃K',YFn Tryz.prog 5 [dF l,.bool true] K (.ret (.bool true)) K'∧jO ls (i+1) K':=by
  obtain⟨⟨vs,h1⟩,h2,h3,h4,T,h5,h6⟩:=hJ;obtain⟨kl,kf,kn1,_,_⟩:=lu hk;have l5:=(List.getElem?_eq_some_iff.1 h5).1;obtain⟨S,hS⟩: ∃S:List AV,S=[.str l.g,.str l.n,.vsl 3 l.x (l.ps.map aD),.str l.v,fsV k,.bool k.parts,.bool k.many,.str (small l.n)]:=⟨_,rfl⟩
  have hsd:dF l=.agg S:=by rw[dF,hk,hS,lz];rfl
  have hSc:(AV.agg S).cells=S:=by rw[hS];rfl
  have hSe:AV.agg S=encS l k (small l.n):=by rw[hS];rfl
  have hFh:AV.hfs (k.fs.map fun f:Nat=>AV.int .i64 (f:Int))=true:=by rw[aR,List.all_eq_true];intro v hv;obtain⟨l,_,rfl⟩:=List.mem_map.1 hv;rfl
  have hSh:AV.hfs S=true:=by rw[hS];simp only[AV.hfs,AV.hf,aB,fsV,hFh,Bool.and_self,Bool.and_true,Bool.true_and]
  obtain⟨M,hM⟩: ∃M,M=(K++[OB.cells S false]).set 5 (.loop T kbO):=⟨_,rfl⟩
  have lM:M.length=K.length+1:=by rw[hM];simp
  have gM5:M[5]? =some (.loop T kbO):=by rw[hM,List.getElem?_set_self (by simp;omega)]
  have g: ∀j o,j≠5→K[j]? =some o→M[j]? =some o:=by
    intro j o hj ho;rw[hM,List.getElem?_set_ne (by omega)];exact aZ ho
  have gS:M[K.length]? =some (.cells S false):=by rw[hM,List.getElem?_set_ne (by omega),List.getElem?_concat_length]
  have hfr5:=h1.free h5 (fun cs e=>by cases e);have hfr2:=h1.free h2 (fun cs e=>by cases e);obtain⟨M2,hM2⟩: ∃M2,M2=M.set 2 (ly (cR (ls.take (i+1)))):=⟨_,rfl⟩
  have hc2:bL M2 1 vs (xsP (ls.take i)):=by
    rw[hM2,hM];exact((h1.more [OB.cells S false]).set _ (by omega) hfr5).set _ (by omega) hfr2
  have g2: ∀j o,j≠2→M[j]? =some o→M2[j]? =some o:=by
    intro j o hj ho;rw[hM2,List.getElem?_set_ne (by omega)];exact ho
  have hxl: ∀f,(xsP (ls.take i) f).length<999999:=by
    intro f;have:=sm (ls.take i) f;simp at this;omega
  have hrun:=xL (l:=l) (p:=(M2,vs)) (fs:=k.fs) kn1 kf hc2 hxl;obtain⟨M3,hM3⟩: ∃M3,M3=(pD l (M2,vs) k.fs).1:=⟨_,rfl⟩
  have hend:=hrun k.fs.length (Nat.le_refl _);rw[List.take_length,←hM3,Ce hk]at hend;have gk: ∀j o,j≠1→(∀cs,o≠ .cells cs true)→M2[j]? =some o→M3[j]? =some o:=fun j o hj hn ho=>hend.2.2 j o hj ho hn;have gM35:M3[5]? =some (.loop T kbO):=gk 5 _ (by omega) (fun cs e=>by cases e) (g2 5 _ (by omega) gM5);have l35:=(List.getElem?_eq_some_iff.1 gM35).1;refine⟨M3.set 5 (.loop T lkO),?_,?_⟩
  · refine YFn.of h5 (by simp[lkO]) fun l'=> ?_
    show W Tryz.prog 89 _ _ (.seq (.region 5 _ _) (.region 6 _ _)) _ ⟨(19,.bool true)::(18,dF l)::T,K,[]⟩;have hst:=sn (K:=K) (S:=S) (by rw[hS];rfl) (by rw[hS];rfl) hSc;rw[hsd];refine .vc (by decide) ?_
    repeat'(first|(simp(disch:=first|omega|(simp only[zL];omega))only[go_sem,seval,hst]))
    refine⟨T,lkO,aZ h5,rfl,?_⟩;rw[show({lkO with st:=.busy}:cW)=kbO from rfl];show W Tryz.prog 89 _ _ (.block 1 (.seq (.seq (.region 7 _ _) _) _)) _ ⟨(6,.bool true)::(5,.ptr K.length 0)::(19,.bool true)::(18,.agg S)::T,(K++[OB.cells S false]).set 5 _,_⟩;rw[←hM];obtain⟨e2,e4,_⟩:=h6;refine W.bG [(6,.bool true),(5,.ptr K.length 0),(2,.ptr 1 0),(4,.ptr 3 0)] ⟨rfl,rfl,by simpa[Av.get]using e2,by simpa[Av.get]using e4,trivial⟩ ?_;have k1:ao Tryz.prog 60 (.ptr 3 0) M=some (.map 2):=by simp[yp,ldC,g 3 _ (by omega) h3]
    have k2:ao Tryz.prog 9 (.ptr K.length 7) M=some (.str (small l.n)):=by simp[ld9,ldC,gS,hS]
    have k3:=jt (g 2 _ (by omega) h2) (small l.n);have k4:ao Tryz.prog 4 (.ptr K.length 6) M=some (.bool k.many):=by simp[ld4,ldC,gS,hS]
    have k5:=uc (g 2 _ (by omega) h2) (small l.n);rw[←IC hl hk,←hM2]at k5;have k6:ao Tryz.prog 68 (.ptr K.length 0) M2=some (.agg S):=by
      simp[GX,ldG,g2 _ _ (by omega) gS,hS]
    have k7:=lh l k (small l.n) hv (by omega);rw[←hSe]at k7;have hvl:(cC k l.v).length=k.fs.length:=by simp[cC]
    have k8: ∀M,aI Tryz.prog 25 (.vsl 0 false ((cC k l.v).map .str)) M=some (.int .i64 k.fs.length):=by intro M;simp[aI,Tryz.underlying25,hvl]
    generalize hq:inB (small l.n) (cR (ls.take i))=q at hb k3;generalize hr:k.many=r at hb k4;refine .block ?_;refine .seq (.vc (by decide) ?_)
    repeat'(first|(simp(disch:=first|omega|(simp only[zL];omega))only[go_sem,seval]))
    refine W.gX [(5,.ptr K.length 0),(2,.ptr 1 0),(4,.ptr 3 0)] M (.vc (by decide) ?_) ?_
    · cases q with
      | false=>
        repeat'(first|(simp(disch:=first|omega|(simp only[zL];omega))only[go_sem,seval,k1,k2,k3,k4]))
        exact⟨rfl,rfl,rfl,trivial⟩
      | true=>
        have hr1:r=true:=by simpa using hb
        subst hr1
        repeat'(first|(simp(disch:=first|omega|(simp only[zL];omega))only[go_sem,seval,k1,k2,k3,k4]))
        exact⟨rfl,rfl,rfl,trivial⟩
    refine .vc (by decide) ?_
    repeat'(first|(simp(disch:=first|omega|(simp only[zL];omega))only[go_sem,seval,k1,k2,k5,k6,k8])|((with_reducible first|apply aj.pure|apply ar.pure);(with_reducible exact k7);(first|rfl|simp only[go_sem,hSh])))
    refine W.bc (X:=Nat) (fun j=>[(38,.int .i64 (j:Int)),(37,.int .i64 k.fs.length),(36,.vsl 0 false ((cC k l.v).map .str)),(5,.ptr K.length 0),(2,.ptr 1 0)]) (fun j=>(pD l (M2,vs) (k.fs.take j)).1) (fun j=>j≤k.fs.length) (fun j=>k.fs.length - j) 0 (Nat.zero_le _) ⟨rfl,rfl,rfl,rfl,rfl,trivial⟩ (by rw[List.take_zero];rfl) ?_;intro j hj;have hlK:5<K.length:=l5;obtain⟨hcj,hkj⟩:=hrun j hj;by_cases h:j<k.fs.length
    · obtain⟨f,hf,_⟩:=drop_at h
      have hf8:=kf f (List.mem_of_getElem? hf);have hsy:=EH hk hf;have hsucc:=qz l (M2,vs) hf;generalize hp:pD l (M2,vs) (k.fs.take j)=p at hcj hkj hsucc ⊢;generalize hs0:bI l f=s at hsy;have hia1: ∀X,ak Tryz.prog 25 (.vsl 0 false ((cC k l.v).map .str)) (.int .i64 (j:Int)) X=some (.vptr [.str s]):=fun X=>eJ (v:=.str s) (by simp[hsy]) rfl X;by_cases hs:s=[]
      · have hsb:(s==([]:Bytes))=true:=by simp[hs]
        unfold mL at hsucc;rw[if_pos (by rw[hs0];exact hs)]at hsucc;refine .vc (by decide) ?_
        repeat'(first|(simp(disch:=first|omega|(simp only[zL];omega))only[go_sem,seval,hia1,hsb]))
        exact⟨j+1,h,by omega,⟨rfl,rfl,rfl,rfl,rfl,trivial⟩,by rw[hsucc]⟩
      · have hsb:(s==([]:Bytes))=false:=by simp[hs]
        have hxb:(jz (xsP (ls.take i)) l (k.fs.take j) f).length<1000000:=by
          have:=hxl f;have:=vS (bI l f);unfold jz;split
          · rw[List.length_append];omega
          · omega
        obtain⟨v,M',hv',hld,hap,hstv,hcon,hlen,hkeep⟩:=hcj.app hf8 s hxb;unfold mL at hsucc;rw[if_neg (by rw[hs0];exact hs),hs0,hv',Option.getD_some,hap]at hsucc;simp only at hsucc;have gp:p.1[K.length]? =some (.cells S false):=hkj.2 _ _ (by omega) (g2 _ _ (by omega) gS) (fun cs e=>by cases e);have gM':M'[K.length]? =some (.cells S false):=by
          rw[hkeep _ (List.getElem?_eq_some_iff.1 gp).1 (hcj.free gp (fun cs e=>by cases e))];exact gp
        have hlf: ∀X:List OB,X[K.length]? =some (.cells S false)→ao Tryz.prog 64 (.ptr K.length 4) X=some (fsV k):=by
          intro X hX;simp[GO,ldC,hX,hS]
        have hl1:=hlf _ gp;have hl2:=hlf _ gM';have hi1: ∀X,ak Tryz.prog 64 (fsV k) (.int .i64 (j:Int)) X=some (.vptr [.int .i64 (f:Int)]):=fun X=>yy (v:=.int .i64 (f:Int)) (by simp[hf]) rfl X;have hic:=iv 1 f hf8;generalize fsV k=Fk at hl1 hl2 hi1;have hde:deN (AV.sl p.1.length 0 ((jz (xsP (ls.take i)) l (k.fs.take j) f).length+1) 0)=.sl p.1.length 0 ((jz (xsP (ls.take i)) l (k.fs.take j) f).length+1) 0:=rfl;generalize(AV.sl p.1.length 0 ((jz (xsP (ls.take i)) l (k.fs.take j) f).length+1) 0)=v2 at hap hstv hsucc hcon hde;refine .vc (by decide) ?_
        repeat'(first|(simp(disch:=first|omega|(simp only[zL];omega))only[go_sem,seval,hia1,hsb]))
        refine W.bw [16,18] [false,false,false,false,false,false,false,false,false,false,false,false,false,false,false,false,true,false,true] [(2,17),(4,17),(5,17)] mixed (by kernel_rfl) (by kernel_rfl) (by kernel_rfl) ?_
        repeat'(first|(simp(disch:=first|omega|(simp only[zL];omega))only[go_sem,seval,ma,hl1,hl2,hi1,hic,hld,hap,hstv,hde]))
        exact⟨j+1,h,by omega,⟨rfl,rfl,rfl,rfl,rfl,trivial⟩,by rw[hsucc]⟩
    · have e:j=k.fs.length:=by omega
      subst e;rw[List.take_length,←hM3];refine .vc (by decide) ?_
      repeat'(first|(simp(disch:=first|omega|(simp only[zL];omega))only[go_sem,seval]))
      exact⟨T,kbO,gM35,rfl,rfl⟩
  · have g3: ∀j o,j≠1→j≠2→j≠5→(∀cs,o≠ .cells cs true)→K[j]? =some o→(M3.set 5 (.loop T lkO))[j]? =some o:=by
      intro j o h1 h2 h5 hn ho;rw[List.getElem?_set_ne (by omega)];exact gk j o h1 hn (g2 j o h2 (g j o h5 ho))
    refine⟨⟨(pD l (M2,vs) k.fs).2,?_⟩,?_,g3 3 _ (by omega) (by omega) (by omega) (fun cs e=>by cases e) h3,g3 4 _ (by omega) (by omega) (by omega) (fun cs e=>by cases e) h4,T,by rw[List.getElem?_set_self l35],h6⟩
    · have hx:xsP (ls.take (i+1))=fun f=>xsP (ls.take i) f++nz (bI l f):=by funext f;exact oQ hl f
      rw[hx];exact hend.1.set _ (by omega) (hend.1.free gM35 (fun cs e=>by cases e))
    · rw[List.getElem?_set_ne (by omega)]
      refine gk 2 _ (by omega) (fun cs e=>by cases e) ?_;rw[hM2,List.getElem?_set_self (by have:=(List.getElem?_eq_some_iff.1 h2).1;omega)]
def xsO(ls:List Ln)(i f:Nat):List Bytes:=if 6≤f∧f<6+i then rL (xsP ls f)else xsP ls f
def xO(ls:List Ln):Nat→List Bytes:=xsO ls 2
def iZ:Nat→List Bytes:=fun _=>[]
def ofP(c:Cd):(Nat→List Bytes)×Nat:=
 if aQ c=0 then(if(List.range c.ls.length).all (okP c.ls)&&(inB nFN (cR c.ls)&&eu (xO c.ls))then(xO c.ls,0)else(iZ,270))else(iZ,2)
theorem kg{c:Cd}(h:aQ c=0):c.ls.length≤100∧∀l∈c.ls,l.v.length≤4000∧l.n.length≤64:=by
 have hr:bZ c=true:=by
  unfold aQ at h;split at h
  ·assumption
  ·cases h
 unfold bZ at hr;simp only[Bool.and_eq_true,decide_eq_true_eq,List.all_eq_true]at hr;refine⟨hr.1.2,fun l hl=>?_⟩;have:=hr.2 l hl;simp only[bU,Bool.and_eq_true,decide_eq_true_eq]at this;have hn:=ie this.2.1;refine⟨by have:=this.2.2.2.2.2.2.2.1;omega,by have:=hn.2;rw[show(small l.n).length=l.n.length from by simp[small]]at this;exact this⟩
theorem ID(ls:List Ln)(hn:ls.length≤100)(hv: ∀l∈ls,l.v.length≤4000)(i:Nat)(l:Ln)(K:List OB)(hl:ls[i]? =some l)(hJ:jO ls i K):
    ∃K',(okP ls i=true∧YFn Tryz.prog 5 [dF l,.bool (aV (small l.n)).isSome] K (.ret (.bool true)) K'∧jO ls (i+1) K')∨(okP ls i=false∧YFn Tryz.prog 5 [dF l,.bool (aV (small l.n)).isSome] K (.ret (.bool false)) K'∧bO K'):=by
  have hi:=(List.getElem?_eq_some_iff.1 hl).1;have hvl:=hv l (List.mem_of_getElem? hl);cases hk:aV (small l.n)with
  | none=>
    obtain⟨K',h1,h2⟩:=yZ ls i l K hl hk hJ;exact⟨K',.inl ⟨by simp[okP,hl,yW,hk],h1,h2⟩⟩
  | some k=>
    have e:okP ls i= !(inB (small l.n) (cR (ls.take i))&& !k.many):=by simp[okP,hl,yW,hk]
    cases hb:(inB (small l.n) (cR (ls.take i))&& !k.many)with
    | false=>
      obtain⟨K',h1,h2⟩:=vU ls i l k K hl (by omega) (by omega) hk hb hJ;exact⟨K',.inl ⟨by rw[e,hb];rfl,h1,h2⟩⟩
    | true=>
      simp only[Bool.and_eq_true,Bool.not_eq_true']at hb;obtain⟨K',h1,h2⟩:=vT ls i l k K hl hk hb.1 hb.2 hJ;exact⟨K',.inr ⟨by rw[e,hb.1,hb.2];rfl,h1,h2⟩⟩
theorem ud{H:List OB}{v:AV}{l:List Bytes}(h:iy H v l):∃u S,[v].mapM (fz (cg S 0 H) 20)=some [u]∧Le u (.vsl 0 false (l.map .str))∧∀j,j∈S→∃n,v=.sl j 0 n 0:=by
 rcases h with⟨rfl,rfl|rfl⟩|⟨d,rfl,hd⟩
 ·exact⟨_,[],rfl,.nils _ _,by simp⟩
 ·exact⟨_,[],rfl,.nil _ _ _,by simp⟩
 ·refine⟨.vsl 0 false (l.map .str),[d],?_,.refl _,fun j hj=>⟨l.length,by simp at hj;rw[hj]⟩⟩
  have:(cg [d] 0 H)[d]? =some (.cells (l.map .str) true):=by rw[jh];simp[hd]
  have:=iY (k:=19) this (Nat.le_refl _);rw[List.take_length]at this;simp only[List.mapM_cons,List.mapM_nil,this];rfl
theorem lA{H:List OB}{S:List Nat}{j:Nat}(h:j∉S):(cY S 0 H)[j]? =H[j]?:=by
 rw[pU];simp[h]
theorem Ch(H:List OB)(S:List Nat):(cY S 0 H).length=H.length:=by
 have:∀(H:List OB) k,(cY S k H).length=H.length:=by
  intro H;induction H with
  |nil=>intro k;rfl
  |cons b H ih=>intro k;simp[cY,ih]
 exact this H 0
theorem KU{H:List OB}{d:Nat}{l:List Bytes}(hd:H[d]? =some (.cells (l.map .str) true))(hl:l.length≤1000000):
    aY Tryz.prog 32 [.sl d 0 l.length 0] H (.ret (.sl d 0 (comp l).length 0)) (H.set d (.cells ((comp l).map .str) true)):=by
  have h:=KC hd hl;have hlt:=(List.getElem?_eq_some_iff.1 hd).1;have:=h.shrink (d:=d) (c:=(comp l).map .str) (r:=(List.replicate (l.length - (comp l).length) []).map .str) (by rw[iW hlt,List.map_append]);rwa[ew,List.set_set]at this
theorem MN:au Tryz.prog 64 2 [(0,.int .i64 6),(1,.int .i64 7)]=some (.vsl 0 true [.int .i64 6,.int .i64 7]):=by kernel_rfl
theorem bd8:bW Tryz.prog 27 []=some (.agg bX):=by kernel_rfl
theorem eS{H:List OB}{b:Nat}{vs us:List AV}(hb:H[b]? =some (.cells vs false))(hv:vs.length=8)(hu:us.length=8)(hc:us.all AV.isC=true)(ha:(AV.agg us).cells=us):aA Tryz.prog 27 (.ptr b 0) (.agg us) H=some (H.set b (.cells us false)):=by
 rw[I8];simp only[stC,hb,ha];rw[if_pos ⟨hu,by omega,hc⟩,kO _ _ _ (by omega)];simp
theorem bL.isC{H:List OB}{b:Nat}{vs:List AV}{xs:Nat→List Bytes}(h:bL H b vs xs):vs.all AV.isC=true∧(AV.agg vs).cells=vs:=by
 have h1:∀v∈vs,v.isC=true∧v.cells=[v]:=by
  intro v hv;obtain⟨f,hf⟩:=List.getElem?_of_mem hv;rcases h.own f v hf with⟨_,rfl|rfl⟩|⟨d,rfl,_⟩<;>exact⟨rfl,rfl⟩
 refine⟨List.all_eq_true.2 fun v hv=>(h1 v hv).1,?_⟩;exact AL vs
theorem bL.st{H:List OB}{b:Nat}{vs:List AV}{xs:Nat→List Bytes}(h:bL H b vs xs):aA Tryz.prog 27 (.ptr b 0) (.agg vs) H=some H:=by
 rw[eS h.blk h.len h.len h.isC.1 h.isC.2,dJ h.blk]
theorem bL.aG{H:List OB}{b:Nat}{vs:List AV}{xs:Nat→List Bytes}(h:bL H b vs xs)(o:Out)(ho:o.scalar=true):∃us,Go.Av.aG H [.agg vs] o=some [.agg us]∧Les us ((bo xs).map aF):=by
 obtain⟨us,h1,h2⟩:=h.fz (k:=18);by_cases hh:AV.hfs [AV.agg vs]=true
 ·have h3:AV.hf (.agg vs)=true:=by simpa[AV.hfs]using hh
  rw[dj h3]at h1;cases h1;exact⟨vs,by unfold Go.Av.aG;rw[if_pos hh],h2⟩
 ·refine⟨us,ed (by simpa using hh) ho ?_,h2⟩
  simp only[List.mapM_cons,List.mapM_nil,h1];rfl
noncomputable def cdO:Code:=match Tryz.f15.body with
 |some (.seq _ (.scope c))=>c
 |_=>.skip
noncomputable def lbO:Code:=(findLabel cdO 0).getD .skip
theorem nq {rs:List ResultVar} {T:List (Nat×AV)} {K:List OB} {D:List DE} {vs:List AV} {xs:Nat→List Bytes} {e:Int} (hr:rs=[.cell 2 27,.tmp 3]) (hc:bL K 1 vs xs) (h2:Av.get T 2=.ptr 1 0) (h3:Av.get T 3=.int .i64 e)
    (hD:D=[]∨(D=[.mark 4]∧K[4]? =some .dfr)):eI Tryz.prog rs (.ret (.tup [.agg ((bo xs).map aF),.int .i64 e])) .ret ⟨T,K,D⟩:=by
  subst hr;have fin: ∀K',bL K' 1 vs xs→ ∃w,fz K' 20 (.tup [.agg vs,.int .i64 e])=some w∧Le w (.tup [.agg ((bo xs).map aF),.int .i64 e]):=by
    intro K' hc';obtain⟨us,h4,h5⟩:=hc'.fz (k:=17);exact⟨_,wW h4 rfl,.tup _ _ (.cons _ _ _ _ (.agg _ _ h5) (.cons _ _ _ _ (.refl _) .nil))⟩
  rcases hD with rfl|⟨rfl,h4⟩
  · obtain⟨w,q1,q2⟩:=fin K hc
    exact vo (a1:=⟨T,K,[]⟩) rfl (lS 2 27 3 (by simp only[h2];exact hc.ld) h3) q1 q2
  · have hc':bL (K.set 4 .dead) 1 vs xs:=hc.set _ (by omega) (hc.free h4 (fun cs e=>by cases e))
    obtain⟨w,q1,q2⟩:=fin _ hc';exact vo (a1:=⟨T,K.set 4 .dead,[]⟩) (qe h4) (lS 2 27 3 (by simp only[h2];exact hc'.ld) h3) q1 q2
theorem vV{T:List (Nat×AV)}{K:List OB}{vs:List AV}{xs:Nat→List Bytes}(hc:bL K 1 vs xs)(h2:Av.get T 2=.ptr 1 0)(h4:K[4]? =some .dfr):
    W Tryz.prog 89 0 none lbO (ki (eI Tryz.prog Tryz.f15.results.toList (.ret (.tup [.agg ((bo iZ).map aF),.int .i64 270])))) ⟨T,K,[.mark 4]⟩:=by
  have hst:=eS (us:=bX) hc.blk hc.len rfl rfl rfl;refine W.bG [(2,.ptr 1 0)] ⟨h2,trivial⟩ ?_;show W Tryz.prog 89 0 none (.seq .skip (.seq (.region 23 _ _) .ret)) _ _;refine .vc (by decide) ?_
  repeat'(first|(simp(disch:=first|omega|(simp only[zL];omega))only[go_sem,seval,bd8,hst,ki]))
  refine nq rfl (bL.none ?_) rfl rfl (.inr ⟨rfl,?_⟩)
  · rw[List.getElem?_set_self (List.getElem?_eq_some_iff.1 hc.blk).1]
  · rw[List.getElem?_set_ne (by omega)];exact h4
theorem Ci(ls:List Ln)(i:Nat):xsO ls (i+1)=ll (xsO ls i) (6+i) (rL (xsP ls (6+i))):=by
 funext g;unfold ll xsO;by_cases hg:g=6+i
 ·subst hg;rw[if_pos (by omega),if_pos rfl]
 ·rw[if_neg hg]
  by_cases h:6≤g∧g<6+i
  ·rw[if_pos (by omega),if_pos h]
  ·rw[if_neg (by omega),if_neg h]
theorem IE(ls:List Ln)(i:Nat):xsO ls i (6+i)=xsP ls (6+i):=if_neg (by omega)
theorem oS{x y:Nat→List Bytes}(h:∀f,f<8→x f=y f):eu x=eu y:=by
 unfold eu;rw[h 0 (by omega)];congr 1;rw[Bool.eq_iff_iff];simp only[List.all_eq_true,List.mem_range];exact⟨fun q f hf=>by rw[←h f hf];exact q f hf,fun q f hf=>by rw[h f hf];exact q f hf⟩
theorem KV(i:Nat)(h:i<2)(X:List OB):ak Tryz.prog 64 (.vsl 0 true [.int .i64 6,.int .i64 7]) (.int .i64 (i:Int)) X=some (.vptr [.int .i64 ((6+i:Nat):Int)]):=by
 refine yy (v:=.int .i64 ((6+i:Nat):Int)) ?_ rfl X
 match i,h with
 |0,_=>rfl
 |1,_=>rfl
set_option maxRecDepth 100000 in
theorem vW(c:Cd):ad Tryz.prog 15 [bV c] (.ret (.tup [.agg ((bo (ofP c).1).map aF),.int .i64 ((ofP c).2:Nat)])):=by
 have hck:=rG c;have hlv:=BX c;have hst:=fun(h0:aQ c=0) (H:List OB) (hJ:jO c.ls 0 H)=>BZ 5 c (by have:=(kg h0).1;omega) (okP c.ls) H (jO c.ls) bO hJ (fun i K M h=>E7 M h) (fun i l K hl hJ=>ID c.ls (kg h0).1 (fun l hl=>((kg h0).2 l hl).1) i l K hl hJ);have ho:ofP c=if aQ c=0 then(if(List.range c.ls.length).all (okP c.ls)&&(inB nFN (cR c.ls)&&eu (xO c.ls))then(xO c.ls,0)else(iZ,270))else(iZ,2):=rfl
 obtain⟨ver,fx,ls⟩:=c;have hLh:=bq ls;simp only[bV]at hck hlv hst ho ⊢;generalize hL:ls.map aw=L at*;generalize ofP ⟨ver,fx,ls⟩=r at*;have hn8:∀A E,bL (A::.cells bX false::E) 1 bX iZ:=fun A E=>bL.none rfl;refine ad.of Tryz.func15 rfl (ab enters Tryz.func15 rfl) (by simp[Tryz.ntmps15]) ?_;show W Tryz.prog 89 0 none (.seq (.region 0 _ _) (.scope _)) _ _;refine .seq (.vc (by decide) ?_)
 repeat'(first|(simp(disch:=first|omega|(simp only[zL];omega))only[go_sem,seval]))
 refine W.scope (rest:=lbO) 0 rfl ?_;by_cases h0:aQ ⟨ver,fx,ls⟩=0
 case neg=>
  rw[if_neg h0]at ho;subst ho;have hb:((aQ ⟨ver,fx,ls⟩:Nat):Int)≠0:=by omega
  have q1:=fun A E=>(hn8 A E).ld;have q2:=fun A E=>(hn8 A E).st;simp only[bX]at q1 q2;refine .vc (by decide) ?_
  repeat'(first|(simp(disch:=first|omega|(simp only[zL];omega))only[go_sem,seval,q1,q2,hb,lD])|((with_reducible first|apply aj.pure|apply ar.pure);(with_reducible exact hck);(first|rfl|simp only[go_sem,hLh])))
  exact nq (vs:=bX) rfl (hn8 _ _) rfl rfl (.inl rfl)
 case pos=>
  rw[if_pos h0]at ho;rw[h0]at hck;obtain⟨hn1,hv1⟩:=kg h0;simp only at hn1 hv1;refine .vc (by decide) ?_
  repeat'(first|(simp(disch:=first|omega|(simp only[zL];omega))only[go_sem,seval,lG,lD])|((with_reducible first|apply aj.pure|apply ar.pure);(with_reducible assumption);(first|rfl|simp only[go_sem,hLh])))
  have hJ0:∀(A:OB) (T:List (Nat×AV)),aC T [(2,.ptr 1 0),(4,.ptr 3 0)]→jO ls 0 ([A,.cells bX false,.map [] [],.cells [.map 2] false]++[.dfr,.loop T lkO]):=
   fun A T hT=>⟨⟨bX,by rw[List.take_zero];exact bL.none rfl⟩,rfl,rfl,rfl,T,rfl,hT⟩
  refine W.fN (gf:=68) (fs:=[]) (cs:=[.vptr [.str ver,.vsl 5 fx L],.vptr [.vmap (fc.map .str) fW]]) rfl (ab enters Tryz.func68 rfl) (hst h0 _ (hJ0 _ _ ⟨rfl,rfl,trivial⟩)) ?_;rintro out K ⟨rfl,⟨hall,⟨vs,hc⟩,m2,m3,m4,T',m5,hT0⟩|⟨hno,⟨vs,xs,hc⟩,m4,T',m5⟩⟩
  case inr=>
   rw[if_neg (by rw[hno];simp)]at ho;subst ho;refine⟨_,T',kgO,rfl,m5,by simp[kgO],?_⟩;show cw _ _ _ _ _ (some (.goto 0));simp only[cw];refine .goto ?_;have hfr:=hc.free m5 (fun cs e=>by cases e);refine And.intro rfl ?_;exact(vV (hc.set _ (by simp) hfr) rfl (by rw[show([OB.cells [.str ver,.vsl 5 fx L] false,.cells [.nilsl,.nilsl,.nilsl,.nilsl,.nilsl,.nilsl,.nilsl,.nilsl] false,.map [] [],.cells [.map 2] false]:List OB).length+1=5 from rfl,List.getElem?_set_ne (by decide)];exact m4))
  case inl=>
  rw[List.take_length]at hc m2;rw[hall,Bool.true_and]at ho;refine⟨_,T',lkO,rfl,m5,by simp[lkO],?_⟩;show cw _ _ _ _ _ none;obtain⟨M,hM⟩:∃M,M=K.set 5 .dead:=⟨_,rfl⟩
  have hMe:K.set ([OB.cells [.str ver,.vsl 5 fx L] false,.cells [.nilsl,.nilsl,.nilsl,.nilsl,.nilsl,.nilsl,.nilsl,.nilsl] false,.map [] [],.cells [.map 2] false].length+1) .dead=M:=hM.symm;rw[hMe];have hc0:bL M 1 vs (xsO ls 0):=by
   have:xsO ls 0=xsP ls:=by funext f;exact if_neg (by omega)
   rw[this,hM];exact hc.set _ (by omega) (hc.free m5 (fun cs e=>by cases e))
  have gM:∀j o,j≠5→K[j]? =some o→M[j]? =some o:=fun j o hj h=>by rw[hM,List.getElem?_set_ne (by omega)];exact h
  replace m2:=gM 2 _ (by omega) m2
  replace m3:=gM 3 _ (by omega) m3
  replace m4:=gM 4 _ (by omega) m4
  clear hM hMe gM m5 hc hst hJ0
  repeat'(first|(simp(disch:=first|omega|(simp only[zL];omega))only[go_sem,seval,cw,MN]))
  refine W.loop (X:=Nat) (fun i a=>aC a.T [(66,.int .i64 (i:Int)),(65,.int .i64 2),(64,.vsl 0 true [.int .i64 6,.int .i64 7]),(2,.ptr 1 0),(4,.ptr 3 0)]∧(∃vs,bL a.H 1 vs (xsO ls i))∧a.H[2]? =some (ly (cR ls))∧a.H[3]? =some (.cells [.map 2] false)∧a.H[4]? =some .dfr∧a.D=[.mark 4]∧i≤2) (fun i=>2 - i) 0 ⟨⟨rfl,rfl,rfl,rfl,rfl,trivial⟩,⟨vs,hc0⟩,m2,m3,m4,rfl,Nat.zero_le _⟩ ?_;clear hc0 m2 m3 m4 M vs hT0 T' K;rintro i ⟨T,M,D⟩ ⟨hT,⟨vs,hc⟩,m2,m3,m4,rfl,hi⟩;simp only at hT hc m2 m3 m4;refine W.bG _ hT (.vc (by decide) ?_);by_cases h:i<2
  ·have hi1:=KV i h
   have hf8:6+i<8:=by omega
   have hia:=iv 1 (6+i) hf8;obtain⟨v,hv,hld,hown⟩:=hc.slot hf8;rw[IE]at hown;have hll:(xsP ls (6+i)).length≤1000000:=by have:=sm ls (6+i);omega
   obtain⟨u,S,hgv,hle,hS⟩:=ud hown;have hval:=ad.le (.cons _ _ _ _ hle .nil) (EU false (xsP ls (6+i)));obtain⟨M1,hM1⟩:∃M1,M1=cY S 0 M:=⟨_,rfl⟩
   have lM1:M1.length=M.length:=by rw[hM1,Ch]
   have gM1:∀j,(∀n,v≠ .sl j 0 n 0)→M1[j]? =M[j]?:=fun j hj=>by rw[hM1];exact lA fun hm=>let ⟨n,e⟩:=hS j hm;hj n e
   have gM2:∀j o,M[j]? =some o→(∀cs,o≠OB.cells cs true)→M1[j]? =some o:=fun j o ho hn=>by
    rw[gM1 j fun n e=>hc.free ho hn (6+i) n (by rw[hv,e])];exact ho
   have hsrt:=ba.frame (H:=M1) (by simp[AV.hfs,AV.hf,az]) ((EX false (xsP ls (6+i)) hll).mono fun o K h=>fa h);have hb1:M1[1]? =some (.cells vs false):=gM2 1 _ hc.blk (fun cs e=>by cases e);have hold:∀(X:List OB),(∀j,j<M.length→X[j]? =M1[j]?)→∀(g:Nat) (w:AV),g≠6+i→vs[g]? =some w→iy X w (xsO ls i g):=fun X hX g w hg hw=>(hc.own g w hw).fE fun d n e=>by
    have hd:d<M.length:=by
     rcases hc.own g w hw with⟨_,e3|e3⟩|⟨d',e3,h3⟩
     ·rw[e]at e3;cases e3
     ·rw[e]at e3;cases e3
     ·rw[e]at e3;cases e3;exact(List.getElem?_eq_some_iff.1 h3).1
    rw[hX d hd,gM1 d fun m e2=>hc.apart g (6+i) d n m hg (by rw[hw,e]) (by rw[hv,e2])]
   have hstep:=Ci ls i;have l1:1<M.length:=(List.getElem?_eq_some_iff.1 hc.blk).1;have l4:4<M.length:=(List.getElem?_eq_some_iff.1 m4).1
   repeat'(first|(simp(disch:=first|omega|(simp only[zL];omega))only[go_sem,seval,hi1,hia,hld])|(guard_target=~ aj _ _ _ _ _ _ _;refine aj.yl S [u] hval hgv ?_))
   rw[←hM1]
   repeat'(first|(simp(disch:=first|omega|(simp only[zL];omega))only[go_sem,seval])|(guard_target=~ aj _ _ _ _ _ _ _;refine aj.any _ hsrt ?_))
   rintro out K (⟨r0,rfl,hr0,⟨e0,rfl⟩,rfl⟩|⟨off,len,wd,cells,opn,rfl,hcs,⟨rfl,rfl,rfl,rfl,rfl⟩,rfl⟩)
   ·have hou:rL (xsP ls (6+i))=[]:=by rw[rL,e0];rfl
    obtain⟨p1,p2⟩:=bL.put (H:=K) (b:=1) (vs:=vs) (xs:=xsO ls i) (f:=6+i) (v:=.vsl 0 true []) (l:=[]) hb1 hc.len hf8 (hold K fun _ _=>rfl) (fun f' g d n m _ _ h3=>hc.apart f' g d n m h3)
     (.inl ⟨rfl,.inr rfl⟩) (fun g d n m _ e=>by cases e) (fun n e=>by cases e) (fun g n _=>hc.sg g n)
    rw[←hou,←hstep]at p2
    repeat'(first|(simp(disch:=first|omega|(simp only[zL];omega))only[go_sem,seval,hia,p1])|((with_reducible first|apply aj.pure|apply ar.pure);(with_reducible exact EZ);(first|rfl|simp only[go_sem])))
    refine⟨i+1,⟨⟨rfl,rfl,rfl,rfl,rfl,trivial⟩,⟨_,p2⟩,?_,?_,?_,h⟩,by omega⟩
    ·rw[List.getElem?_set_ne (by omega)];exact gM2 2 _ m2 (fun cs e=>by cases e)
    ·rw[List.getElem?_set_ne (by omega)];exact gM2 3 _ m3 (fun cs e=>by cases e)
    ·rw[List.getElem?_set_ne (by omega)];exact gM2 4 _ m4 (fun cs e=>by cases e)
   ·have hsl:(cq (xsP ls (6+i))).length≤1000000:=by rw[(kY (xsP ls (6+i))).length_eq];exact hll
    have hcm:=KU (H:=M1++[.cells ((cq (xsP ls (6+i))).map .str) true]) (d:=M1.length) (l:=cq (xsP ls (6+i))) (by simp) hsl;obtain⟨M3,hM3⟩:∃M3,M3=(M1++[OB.cells ((cq (xsP ls (6+i))).map .str) true]).set M1.length (.cells ((comp (cq (xsP ls (6+i)))).map .str) true):=⟨_,rfl⟩
    rw[←hM3]at hcm;have g3:∀j,j<M.length→M3[j]? =M1[j]?:=fun j hj=>by rw[hM3,List.getElem?_set_ne (by omega),List.getElem?_append_left (by omega)]
    have g3n:M3[M1.length]? =some (.cells ((comp (cq (xsP ls (6+i)))).map .str) true):=by rw[hM3,List.getElem?_set_self (by simp)]
    obtain⟨p1,p2⟩:=bL.put (H:=M3) (b:=1) (vs:=vs) (xs:=xsO ls i) (f:=6+i) (v:=.sl M1.length 0 (comp (cq (xsP ls (6+i)))).length 0) (l:=comp (cq (xsP ls (6+i)))) (by rw[g3 1 l1];exact hb1) hc.len hf8 (hold M3 g3) (fun f' g d n m _ _ h3=>hc.apart f' g d n m h3)
     (.inr ⟨M1.length,rfl,g3n⟩) (fun g d n m _ e=>by cases e;exact hc.fresh (by omega) g m) (fun n e=>by injection e with e1;omega) (fun g n _=>hc.sg g n)
    rw[show comp (cq (xsP ls (6+i)))=rL (xsP ls (6+i))from rfl,←hstep]at p2
    repeat'(first|(simp(disch:=first|omega|(simp only[zL];omega))only[go_sem,seval,hia,p1])|(guard_target=~ aj _ _ _ _ _ _ _;refine aj.sh hcm ?_))
    refine⟨i+1,⟨⟨rfl,rfl,rfl,rfl,rfl,trivial⟩,⟨_,p2⟩,?_,?_,?_,h⟩,by omega⟩
    ·rw[List.getElem?_set_ne (by omega),g3 2 (by omega)];exact gM2 2 _ m2 (fun cs e=>by cases e)
    ·rw[List.getElem?_set_ne (by omega),g3 3 (by omega)];exact gM2 3 _ m3 (fun cs e=>by cases e)
    ·rw[List.getElem?_set_ne (by omega),g3 4 (by omega)];exact gM2 4 _ m4 (fun cs e=>by cases e)
  ·have e:i=2:=by omega
   subst e;have k1:ao Tryz.prog 60 (.ptr 3 0) M=some (.map 2):=by simp[yp,ldC,m3]
   have k3:=jt m2 [102,110];rw[show inB nFN (cR ls)=inB [102,110] (cR ls)from rfl]at ho;have hld:=hc.ld;have hstc:=hc.st;have hk8:eu (bR (bo (xsO ls 2)))=eu (xO ls):=oS fun f hf=>qx _ hf;have hcv:=Ku (bo (xsO ls 2)) (ck _);rw[hk8]at hcv;cases hb:inB [102,110] (cR ls)with
   |false=>
    rw[hb]at k3 ho;simp only[Bool.false_and,Bool.false_eq_true,if_false]at ho;subst ho
    repeat'(first|(simp(disch:=first|omega|(simp only[zL];omega))only[go_sem,seval,k1,k3,lD]))
    exact vV hc rfl m4
   | true=>
    rw[hb,Bool.true_and]at ho;rw[hb]at k3;obtain⟨us,hle,hles⟩:=hc.aG (.ret (.int .i64 (if eu (xO ls)then 0 else 2))) rfl;have hcv2:=ad.le (.cons _ _ _ _ (.agg _ _ hles) .nil) hcv;cases hk:eu (xO ls)with
    |true=>
     rw[hk,if_pos rfl]at ho hcv2 hle;subst ho
     repeat'(first|(simp(disch:=first|omega|(simp only[zL];omega))only[go_sem,seval,k1,k3,hld,hstc,lD])|(guard_target=~ aj _ _ _ _ _ _ _;refine aj.aG _ hcv2 hle ?_))
     exact nq rfl hc rfl rfl (.inr ⟨rfl,m4⟩)
    |false=>
     rw[hk]at ho hcv2 hle;simp only[Bool.false_eq_true,if_false]at ho hcv2 hle;subst ho
     repeat'(first|(simp(disch:=first|omega|(simp only[zL];omega))only[go_sem,seval,k1,k3,hld,lD])|(guard_target=~ aj _ _ _ _ _ _ _;refine aj.aG _ hcv2 hle ?_))
     exact vV hc rfl m4
def eF(q:Ln×Bool):AV:=.agg [.str q.1.g,.str q.1.n,if q.2 then .nilsl else .vsl 3 q.1.x (q.1.ps.map aD),.str q.1.v]
theorem Cj(q:Ln×Bool):(eF q).cells.length=esz 5:=rfl
theorem Ck(q:Ln×Bool):(eF q).cells.all AV.isC=true:=by
 obtain⟨l,b⟩:=q;cases b<;>rfl
theorem E8(q:Ln×Bool):(eF q).hf=true:=by
 obtain⟨l,b⟩:=q;cases b<;>simp[eF,AV.hf,AV.hfs,aB]
theorem vX(l:Ln):eF (l,false)=aw l:=rfl
theorem ue:∀(l:List (Ln×Bool)),(∀q∈l,q.2=true→q.1.ps=[])→Lee (l.map eF) ((l.map (·.1)).map aw)
 | [],_=>.nil
 | q::l,h=>by
  refine .cons _ _ _ _ ?_ (ue l fun q hq=>h q (by simp[hq]));obtain⟨m,b⟩:=q;cases b with
  |false=>exact .cons _ _ _ _ (.refl _) (.cons _ _ _ _ (.refl _) (.cons _ _ _ _ (.refl _) (.cons _ _ _ _ (.refl _) .nil)))
  |true=>
   have:=h (m,true) (by simp) rfl;simp only at this;refine .cons _ _ _ _ (.refl _) (.cons _ _ _ _ (.refl _) (.cons _ _ _ _ ?_ (.cons _ _ _ _ (.refl _) .nil)));rw[this];exact .nils _ _
def pE(H:List OB)(v:AV)(L:List (Ln×Bool)):Prop:=(L=[]∧v=.nilsl)∨∃d,v=.sl d 0 L.length 5∧H[d]? =some (.cells (be eF L) true)
theorem pE.fE{H K:List OB}{v:AV}{L:List (Ln×Bool)}(h:pE H v L)(hk:∀d n,v=.sl d 0 n 5→K[d]? =H[d]?):pE K v L:=by
 rcases h with h|⟨d,h1,h2⟩
 ·exact .inl h
 ·exact .inr ⟨d,h1,by rw[hk d _ h1];exact h2⟩
theorem pE.lt{H:List OB}{v:AV}{L:List (Ln×Bool)}(h:pE H v L){d n:Nat}(e:v=.sl d 0 n 5):∃cs,H[d]? =some (.cells cs true):=by
 rcases h with⟨_,h⟩|⟨d',h1,h2⟩
 ·rw[e]at h;cases h
 ·rw[e]at h1;cases h1;exact⟨_,h2⟩
theorem E9(q:Ln×Bool):au Tryz.prog 22 1 [(0,eF q)]=some (.vsl 5 true [eF q]):=by
 obtain⟨l,b⟩:=q;cases b<;>simp[au,Tryz.underlying22,yn,eF,AV.cells,AV.told,esz]
set_option maxRecDepth 8000 in
theorem Gf{H:List OB}{o:Nat}{ver:Bytes}{ov:AV}{L:List (Ln×Bool)}(h3:H[o]? =some (.cells [.str ver,ov] false))(hown:pE H ov L)(q:Ln×Bool)(hl:L.length<1000000):
    ∃ M:List OB,M.length=H.length+1∧M[H.length]? =some (OB.cells (be eF (L++[q])) true)∧(∀i,i<H.length→(∀n,ov≠ .sl i 0 n 5)→M[i]? =H[i]?)∧
      aY Tryz.prog 55 [.vsl 5 true [eF q],.ptr o 0] H (.ret (.tup [])) (M.set o (OB.cells [.str ver,.sl H.length 0 (L.length+1) 5] false)):=by
  have lo:=(List.getElem?_eq_some_iff.1 h3).1;have hs:nT 5 eF H (deN ov) L:=by
    rcases hown with⟨e,rfl⟩|⟨d,rfl,hd⟩
    · exact .inl ⟨e,0,rfl⟩
    · exact .inr ⟨d,rfl,hd⟩
  obtain⟨M,hap,hlen,hnew,hold⟩:=kJ (P:=Tryz.prog) (sT:=22) (wd:=5) Tryz.underlying22 yn eF Cj Ck (by decide) hs q true (by omega);have hfree: ∀i,i<H.length→(∀n,ov≠ .sl i 0 n 5)→M[i]? =H[i]? :=by
    intro i hi hn;refine hold i hi fun e=> ?_;rcases hown with⟨_,rfl⟩|⟨d,rfl,hd⟩
    · cases e
    · exact hn _ e
  have hno: ∀n,ov≠ .sl o 0 n 5:=by
    intro n e;obtain⟨cs,hc⟩:=hown.lt e;rw[h3]at hc;injection(Option.some.inj hc)with _ h;cases h
  have g3:M[o]? =some (.cells [.str ver,ov] false):=by rw[hfree o lo hno];exact h3
  refine⟨M,hlen,hnew,hfree,ba.one ?_⟩;refine ba.ofX Tryz.func55 rfl (ab enters Tryz.func55 rfl) (by simp[Tryz.ntmps55]) ?_;show W Tryz.prog 8 _ none _ _ ⟨aL 0 [.vsl 5 true [eF q],.ptr o 0],H,[]⟩;have k1:ao Tryz.prog 22 (.ptr o 1) H=some ov:=by simp[Db,ldC,h3]
  have k2:aA Tryz.prog 22 (.ptr o 1) (.sl H.length 0 (L.length+1) 5) M=some (M.set o (.cells [.str ver,.sl H.length 0 (L.length+1) 5] false)):=by
    rw[I4];simp[stC,g3,AV.cells,AV.isC,cz]
  generalize eF q=Q at hap;refine .vc (by decide) ?_
  repeat'(first|(simp(disch:=first|omega|(simp only[zL];omega))only[go_sem,seval,k1,k2,hap]))
  exact⟨_,_,⟨rfl,rfl⟩,_,rfl,rfl,_,rfl,rfl⟩
theorem KW:au Tryz.prog 44 0 []=some (.vsl 3 true []):=by simp[au,Tryz.underlying44,vb]
set_option maxRecDepth 8000 in
theorem IG(x:Bool)(ps:List (Bytes×Bytes))(hL:ps.length≤1000000):ad Tryz.prog 56 [.vsl 3 x (ps.map aD)] (.ret (.vsl 3 false (ps.map aD))):=by
 cases ps with
 | nil=>
  have h0:aE Tryz.prog 44 44 (.vsl 3 true []) (.vsl 3 x []) []=some (.vsl 3 true [],[]):=by
   simp[aE,apX,Tryz.underlying44,vb,cp,cO,esz]
  simp only[List.map_nil];refine ad.of Tryz.func56 rfl (ab enters Tryz.func56 rfl) (by simp[Tryz.ntmps56]) ?_;show W Tryz.prog 8 0 none _ _ _;refine W.vc (by decide) ?_
  repeat'(first|(simp(disch:=first|omega|(simp only[zL];omega))only[go_sem,seval,VA]))
  rintro(_|_)
  ·repeat'(first|(simp(disch:=first|omega|(simp only[zL];omega))only[go_sem,seval,KW,h0]))
   exact rn 2 rfl rfl rfl rfl (.nil _ _ _)
  ·repeat'(first|(simp(disch:=first|omega|(simp only[zL];omega))only[go_sem,seval]))
   exact rn 2 rfl rfl rfl rfl (.nil _ _ _)
 | cons a l=>
  have hn:aE Tryz.prog 44 44 (.vsl 3 true []) (.vsl 3 x ((a::l).map aD)) []=some (.sl 0 0 (a::l).length 3,[.cells (be aD (a::l)) true]):=by
   have h:¬(a::l).length=0:=by simp
   simp only[aE,apX,Tryz.underlying44,vb,cp,cO,esz,↓reduceIte,List.length_nil,Nat.zero_add,List.flatMap_nil,List.nil_append,List.length_map,h];rw[if_pos (by omega)];rfl
  have e1:=KF 44 3 x (aD a) (l.map aD) nkP 0 0;obtain⟨u,hu,hle⟩:=hG (k:=19) (n:=2) (f:=aD) (M:=[.cells (be aD (a::l)) true]) (v:=.sl 0 0 (a::l).length 3) (L:=a::l) (by decide) (fun p=>⟨_,rfl,rfl⟩) (fun p=>rfl) (.inr ⟨0,rfl,rfl⟩);generalize be aD (a::l)=fl at hn hu;simp only[List.map_cons]at hn hle ⊢;generalize aD a=ea at e1 hn hle ⊢;generalize l.map aD=el at e1 hn hle ⊢;refine ad.of Tryz.func56 rfl (ab enters Tryz.func56 rfl) (by simp[Tryz.ntmps56]) ?_;show W Tryz.prog 8 0 none _ _ _;refine W.vc (by decide) ?_
  repeat'(first|(simp(disch:=first|omega|(simp only[zL];omega))only[go_sem,seval,e1,KG,KH,KW,hn]))
  exact kI 2 rfl rfl rfl hu hle
/-! ### Plain -/
def eG(c:List Val)(l:Ln):Ln×Bool:=match aV (small l.n)with
 |none=>({l with x:=false},true)
 |some k=>ua {l with x:=false} k c
def eK(c:List Val)(ls:List Ln):List (Ln×Bool):=ls.flatMap fun l=>if(eG c l).2 then [((eG c l).1,false)]else []
def Cm(c:List Val)(acc:List Bytes)(l:Ln):List Bytes:=match aV (small l.n)with
 |some _=>if(eG c l).2 then(if small l.n∈acc then acc else acc++[small l.n])else acc
 |none=>acc
def cy(c:List Val)(ls:List Ln):List Bytes:=ls.foldl (Cm c) []
def mN(c:List Val)(l:Ln)(f:Nat):List Bytes:=match aV (small l.n)with
 |some k=>if(eG c l).2&&k.many&&(k.fs.headD 8==f)then [(cC k l.v).headD []]else []
 |none=>[]
def cD(c:List Val)(ls:List Ln)(f:Nat):List Bytes:=ls.flatMap fun l=>mN c l f
theorem mf{c:List Val}{ls:List Ln}{i:Nat}{l:Ln}(h:ls[i]? =some l):eK c (ls.take (i+1))=eK c (ls.take i)++(if(eG c l).2 then [((eG c l).1,false)]else []):=by
 rw[List.take_add_one,h,eK,List.flatMap_append];simp[eK]
theorem ja{c:List Val}{ls:List Ln}{i:Nat}{l:Ln}(h:ls[i]? =some l):cy c (ls.take (i+1))=Cm c (cy c (ls.take i)) l:=by
 rw[List.take_add_one,h,cy,List.foldl_append];rfl
theorem ik{c:List Val}{ls:List Ln}{i:Nat}{l:Ln}(h:ls[i]? =some l)(f:Nat):cD c (ls.take (i+1)) f=cD c (ls.take i) f++mN c l f:=by
 rw[List.take_add_one,h,cD,List.flatMap_append];simp[cD]
theorem oT(c:List Val)(ls:List Ln):(eK c ls).length≤ls.length:=by
 induction ls with
 |nil=>simp[eK]
 |cons l ls ih=>
  have h1:(if(eG c l).2 then [((eG c l).1,false)]else([]:List (Ln×Bool))).length≤1:=by split<;>simp
  simp only[eK,List.flatMap_cons,List.length_append,List.length_cons]at ih ⊢;omega
theorem za(c:List Val)(l:Ln)(f:Nat):(mN c l f).length≤1:=by
 unfold mN;split
 ·split<;>simp
 ·simp
theorem zb(c:List Val)(ls:List Ln)(f:Nat):(cD c ls f).length≤ls.length:=by
 induction ls with
 |nil=>simp[cD]
 |cons l ls ih=>have:=za c l f;simp only[cD,List.flatMap_cons,List.length_append,List.length_cons]at ih ⊢;omega
/-! ### Memory between two rounds -/
noncomputable def asL:Code:=match Tryz.f26.body with
 |some (.seq _ (.seq _ (.seq _ (.seq _ (.seq _ (.seq (.seq _ (.block _ (.rangeFunc _ _ a _))) _))))))=>a
 |_=>.skip
noncomputable def bdL:Code:=match Tryz.f26.body with
 |some (.seq _ (.seq _ (.seq _ (.seq _ (.seq _ (.seq (.seq _ (.block _ (.rangeFunc _ _ _ b))) _))))))=>b
 |_=>.skip
noncomputable def lkL:cW:=⟨162,#[29,30],asL,bdL,.ready,none⟩
noncomputable def kbL:cW:=⟨162,#[29,30],asL,bdL,.busy,none⟩
abbrev oU:AV:=.func (.func 55) [] [.ptr 3 0]
structure dQ (K:List OB) (ver:Bytes) (ov:AV) (L:List (Ln×Bool)) (vs:List AV) (xs:Nat→List Bytes):Prop where
 two:K[2]? =some (.cells [.str [],.nilsl] false)
 blk:K[3]? =some (.cells [.str ver,ov] false)
 own:pE K ov L
 con:bL K 5 vs xs
 apart:∀d n,ov=.sl d 0 n 5→ke vs d
theorem dQ.fE{H K:List OB}{ver:Bytes}{ov:AV}{L:List (Ln×Bool)}{vs:List AV}{xs:Nat→List Bytes}(h:dQ H ver ov L vs xs)(hk:∀j o,H[j]? =some o→(j=2∨j=3∨j=5∨∃cs,o=OB.cells cs true)→K[j]? =some o):dQ K ver ov L vs xs:=by
 refine⟨hk 2 _ h.two (.inl rfl),hk 3 _ h.blk (.inr (.inl rfl)),h.own.fE fun d n e=>?_,h.con.fE (by rw[h.con.blk];exact hk 5 _ h.con.blk (.inr (.inr (.inl rfl)))) fun d hd=>?_,h.apart⟩
 ·obtain⟨cs,hc⟩:=h.own.lt e
  rw[hc];exact hk d _ hc (.inr (.inr (.inr ⟨_,rfl⟩)))
 ·cases hd2:H[d]? with
  |none=>exact(hd (h.con.fresh (by rw[List.getElem?_eq_none_iff]at hd2;exact hd2))).elim
  |some o=>
   by_cases ho:∃cs,o=OB.cells cs true
   ·exact hk d _ hd2 (.inr (.inr (.inr ho)))
   ·exact(hd (h.con.free hd2 fun cs e=>ho ⟨cs,e⟩)).elim
theorem dQ.set{H:List OB}{ver:Bytes}{ov:AV}{L:List (Ln×Bool)}{vs:List AV}{xs:Nat→List Bytes}(h:dQ H ver ov L vs xs){i:Nat}{b:OB}(o:OB)(hi:H[i]? =some b)(hb:∀cs,b≠ .cells cs true)(h3:i≠3)(h5:i≠5)(h2:i≠2:=by omega):dQ (H.set i o) ver ov L vs xs:=
 h.fE fun j p hj hp=>by
  have:j≠i:=by
   rintro rfl;rw[hi]at hj;cases hj;rcases hp with e|e|e|⟨cs,e⟩
   ·exact h2 e
   ·exact h3 e
   ·exact h5 e
   ·exact hb cs e
  rw[List.getElem?_set_ne (by omega)];exact hj
theorem dQ.more{H:List OB}{ver:Bytes}{ov:AV}{L:List (Ln×Bool)}{vs:List AV}{xs:Nat→List Bytes}(h:dQ H ver ov L vs xs)(E:List OB):dQ (H++E) ver ov L vs xs:=
 h.fE fun j p hj _=>aZ hj
theorem dQ.add {H:List OB} {ver:Bytes} {ov:AV} {L:List (Ln×Bool)} {vs:List AV} {xs:Nat→List Bytes} (h:dQ H ver ov L vs xs) (q:Ln×Bool) (hl:L.length<1000000):
    ∃N ov',aY Tryz.prog 55 [.vsl 5 true [eF q],.ptr 3 0] H (.ret (.tup [])) N∧dQ N ver ov' (L++[q]) vs xs∧N.length=H.length+1∧ ∀j o,j≠3→H[j]? =some o→(∀cs,o≠ .cells cs true)→N[j]? =some o:=by
  obtain⟨M,hlen,hnew,hold,hsh⟩:=Gf h.blk h.own q hl;have l3:=(List.getElem?_eq_some_iff.1 h.blk).1;have hov: ∀j o,H[j]? =some o→(∀cs,o≠OB.cells cs true)→ ∀n,ov≠ .sl j 0 n 5:=fun j o hj ho n e=>by
    obtain⟨cs,hc⟩:=h.own.lt e;rw[hj]at hc;exact ho cs (Option.some.inj hc)
  refine⟨_,_,hsh,⟨by rw[List.getElem?_set_ne (by omega),hold 2 (List.getElem?_eq_some_iff.1 h.two).1 (hov 2 _ h.two (fun cs e=>by cases e))];exact h.two,by rw[List.getElem?_set_self (by omega)],.inr ⟨H.length,by simp,?_⟩,?_,?_⟩,by simp[hlen],fun j o hj ho hn=> ?_⟩
  · rw[List.getElem?_set_ne (by omega)];exact hnew
  · have hc:bL M 5 vs xs:=h.con.fE (hold 5 (List.getElem?_eq_some_iff.1 h.con.blk).1 (hov 5 _ h.con.blk (fun cs e=>by cases e))) fun d hd=>by
      have hdl:d<H.length:=by
        by_cases hx:d<H.length
        · exact hx
        · exact(hd (h.con.fresh (by omega))).elim
      exact hold d hdl fun n e=>hd (h.apart d n e)
    exact hc.set _ (by omega) (h.con.free h.blk (fun cs e=>by cases e))
  · intro d n e
    injection e with e1
    subst e1;exact h.con.fresh (Nat.le_refl _)
  · rw[List.getElem?_set_ne (by omega),hold j (List.getElem?_eq_some_iff.1 ho).1 (hov j o ho hn)]
    exact ho
def jL(ver:Bytes)(c:List Val)(ls:List Ln)(i:Nat)(K:List OB):Prop:=
 K[1]? =some (.cells (c.map aF) false)∧(∃ov vs,dQ K ver ov (eK c (ls.take i)) vs (cD c (ls.take i)))∧K[4]? =some (.cells [oU] false)∧K[6]? =some (ly (cy c (ls.take i)))∧K[7]? =some (.cells [.map 6] false)∧K[8]? =some .dfr∧
  ∃T,K[9]? =some (.loop T lkL)∧aC T [(3,.ptr 1 0),(6,.ptr 4 0),(7,.ptr 5 0),(8,.ptr 7 0)]
theorem Fa{ver:Bytes}{c:List Val}{ls:List Ln}{i:Nat}{K:List OB}(M:List OB)(h:jL ver c ls i K):jL ver c ls i (K++M):=by
 obtain⟨h1,⟨ov,vs,h2⟩,h4,h6,h7,h8,T,h9,hT⟩:=h;exact⟨aZ h1,⟨ov,vs,h2.more M⟩,aZ h4,aZ h6,aZ h7,aZ h8,T,aZ h9,hT⟩
def bare(l:Ln):Ln:={l with x:=false}
def bK(l:Ln)(x:Bool):List AV:=[.str l.g,.str l.n,.vsl 3 x (l.ps.map aD),.str l.v]++kdL (aV (small l.n))++[.str (small l.n)]
theorem Cn(l:Ln):dF l=.agg (bK l l.x):=rfl
theorem ju(l:Ln)(x:Bool):(bK l x).length=8:=by
 unfold bK;cases aV (small l.n)<;>rfl
theorem zc(l:Ln)(x:Bool):(bK l x).all AV.isC=true:=by
 unfold bK;cases aV (small l.n)<;>rfl
theorem qA(l:Ln)(x:Bool):AV.hfs (bK l x)=true:=by
 have hF:∀k:Kd,AV.hf (fsV k)=true:=fun k=>by
  rw[fsV,AV.hf,aR,List.all_eq_true];intro v hv;obtain⟨l,_,rfl⟩:=List.mem_map.1 hv;rfl
 unfold bK;cases aV (small l.n)with
 |none=>simp[kdL,AV.hfs,AV.hf,aB]
 |some k=>simp[kdL,AV.hfs,AV.hf,aB,hF]
theorem Fb(l:Ln)(x:Bool):(bK l x)[2]? =some (.vsl 3 x (l.ps.map aD)):=by unfold bK;cases aV (small l.n)<;>rfl
theorem Fc(l:Ln)(x:Bool):(bK l x)[7]? =some (.str (small l.n)):=by unfold bK;cases aV (small l.n)<;>rfl
theorem Fe{l:Ln}{k:Kd}(h:aV (small l.n)=some k)(x:Bool):(bK l x)[4]? =some (fsV k):=by unfold bK;rw[h];rfl
theorem Ff{l:Ln}{k:Kd}(h:aV (small l.n)=some k)(x:Bool):(bK l x)[6]? =some (.bool k.many):=by unfold bK;rw[h];rfl
theorem vY(l:Ln)(x:Bool):(bK l x).take 4=[.str l.g,.str l.n,.vsl 3 x (l.ps.map aD),.str l.v]:=by unfold bK;cases aV (small l.n)<;>rfl
theorem zd(l:Ln):(bK l l.x).set 2 (.vsl 3 false (l.ps.map aD))=bK l false:=by unfold bK;cases aV (small l.n)<;>rfl
theorem mg{l:Ln}{k:Kd}(h:aV (small l.n)=some k):AV.agg (bK l false)=encS (bare l) k (small l.n):=by unfold bK;rw[h];rfl
structure KX (A:List OB) (b:Nat) (T:List (Nat×AV)) (ver:Bytes) (c:List Val) (l:Ln) (ov:AV) (L:List (Ln×Bool)) (vs:List AV) (xs:Nat→List Bytes) (th:List Bytes):Prop where
 b10:10≤b
 len:b<A.length
 con:A[1]? =some (.cells (c.map aF) false)
 grow:dQ A ver ov L vs xs
 fn:A[4]? =some (.cells [oU] false)
 th:A[6]? =some (ly th)
 thc:A[7]? =some (.cells [.map 6] false)
 dfr:A[8]? =some .dfr
 loop:A[9]? =some (.loop T kbL)
 said:A[b]? =some (.cells (bK l false) false)
noncomputable def rsL:Code:=match bdL with
 | .block _ (.seq _ r)=>r
 |_=>.skip
theorem Co{K:List OB}{S:List AV}(h:S.length=8)(hc:S.all AV.isC=true):aA Tryz.prog 68 (.ptr K.length 0) (.agg S) (K++[.cells [.str [],.str [],.nilsl,.str [],.nilsl,.bool false,.bool false,.str []] false])=some (K++[.cells S false]):=sn h hc rfl
set_option maxRecDepth 8000 in
theorem so{ver:Bytes}{c:List Val}{ls:List Ln}{i:Nat}{l:Ln}{K:List OB}(b:Bool)(hps:l.ps.length≤1000000)(hJ:jL ver c ls i K):
    ∃ T A ov vs,aC T [(3,.ptr 1 0),(6,.ptr 4 0),(7,.ptr 5 0),(8,.ptr 7 0)]∧KX A K.length T ver c l ov (eK c (ls.take i)) vs (cD c (ls.take i)) (cy c (ls.take i))∧A.length=K.length+1∧
      ∀out K',(∀l',W Tryz.prog 162 K.length (some l') rsL (aO 1 (uX 9 out K')) ⟨[(9,.ptr K.length 0),(10,.bool b),(3,.ptr 1 0),(6,.ptr 4 0),(7,.ptr 5 0),(8,.ptr 7 0)],A,[]⟩)→YFn Tryz.prog 9 [dF l,.bool b] K out K':=by
  obtain⟨h1,⟨ov,vs,h2⟩,h4,h6,h7,h8,T,h9,hT⟩:=hJ;have l9:=(List.getElem?_eq_some_iff.1 h9).1;obtain⟨M,hM⟩: ∃M,M=(K++[OB.cells (bK l l.x) false]).set 9 (.loop T kbL):=⟨_,rfl⟩
  have lM:M.length=K.length+1:=by rw[hM];simp
  have gM: ∀j o,j≠9→K[j]? =some o→M[j]? =some o:=by
    intro j o hj ho;rw[hM,List.getElem?_set_ne (by omega)];exact aZ ho
  have gM9:M[9]? =some (.loop T kbL):=by rw[hM,List.getElem?_set_self (by simp;omega)]
  have gS:M[K.length]? =some (.cells (bK l l.x) false):=by rw[hM,List.getElem?_set_ne (by omega),List.getElem?_concat_length]
  obtain⟨A,hA⟩: ∃A,A=M.set K.length (.cells (bK l false) false):=⟨_,rfl⟩
  have gA: ∀j o,j≠K.length→M[j]? =some o→A[j]? =some o:=by
    intro j o hj ho;rw[hA,List.getElem?_set_ne (by omega)];exact ho
  have gKA: ∀j o,j≠9→K[j]? =some o→A[j]? =some o:=fun j o hj ho=>gA j o (by have:=(List.getElem?_eq_some_iff.1 ho).1;omega) (gM j o hj ho);have hgr:dQ A ver ov (eK c (ls.take i)) vs (cD c (ls.take i)):=by
    rw[hA];refine dQ.set ?_ _ gS (fun cs e=>by cases e) (by omega) (by omega);rw[hM];exact(h2.more _).set _ (aZ h9) (fun cs e=>by cases e) (by omega) (by omega)
  refine⟨T,A,ov,vs,hT,⟨by omega,by rw[hA,List.length_set];omega,gKA 1 _ (by omega) h1,hgr,gKA 4 _ (by omega) h4,gKA 6 _ (by omega) h6,gKA 7 _ (by omega) h7,gKA 8 _ (by omega) h8,gA 9 _ (by omega) gM9,by rw[hA,List.getElem?_set_self (by omega)]⟩,by rw[hA,List.length_set,lM],?_⟩;intro out K' hbody;refine YFn.of h9 (by simp[lkL]) fun l'=> ?_;show W Tryz.prog 162 _ _ (.seq (.region 6 _ _) (.region 7 _ _)) _ ⟨(30,.bool b)::(29,dF l)::T,K,[]⟩;have hst:=Co (K:=K) (ju l l.x) (zc l l.x);rw[Cn];refine .vc (by decide) ?_
  repeat'(first|(simp(disch:=first|omega|(simp only[zL];omega))only[go_sem,seval,hst]))
  refine⟨T,lkL,aZ h9,rfl,?_⟩;rw[show({lkL with st:=.busy}:cW)=kbL from rfl];show W Tryz.prog 162 _ _ (.block 1 (.seq (.region 8 _ _) rsL)) _ ⟨(10,.bool b)::(9,.ptr K.length 0)::(30,.bool b)::(29,.agg (bK l l.x))::T,(K++[OB.cells (bK l l.x) false]).set 9 _,_⟩;rw[←hM];obtain⟨e3,e6,e7,e8,_⟩:=hT;refine .block (.seq (W.bG [(10,.bool b),(9,.ptr K.length 0),(3,.ptr 1 0),(6,.ptr 4 0),(7,.ptr 5 0),(8,.ptr 7 0)] ⟨rfl,rfl,by simpa[Av.get]using e3,by simpa[Av.get]using e6,by simpa[Av.get]using e7,by simpa[Av.get]using e8,trivial⟩ (.vc (by decide) ?_)))
  have k1:ao Tryz.prog 44 (.ptr K.length 2) M=some (.vsl 3 l.x (l.ps.map aD)):=by simp[Jc,ldC,gS,Fb]
  have k2:aA Tryz.prog 44 (.ptr K.length 2) (.vsl 3 false (l.ps.map aD)) M=some A:=by
    rw[Jb,hA];simp only[stC,gS];rw[if_pos ⟨rfl,by rw[ju];decide,rfl⟩];simp only[AV.cells,cz,zd]
  have hcp:=IG l.x l.ps hps;have hph:=aB l.ps;generalize hP:l.ps.map aD=P at*
  repeat'(first|(simp(disch:=first|omega|(simp only[zL];omega))only[go_sem,seval,k1,k2])|((with_reducible first|apply aj.pure|apply ar.pure);(with_reducible exact hcp);(first|rfl|simp only[go_sem,hph])))
  refine W.bG _ ?_ (hbody l');exact⟨rfl,rfl,rfl,rfl,rfl,rfl,trivial⟩
theorem xM {ver:Bytes} {c:List Val} {ls:List Ln} {i:Nat} {N:List OB} {T:List (Nat×AV)} {ov:AV} {vs:List AV} (hT:aC T [(3,.ptr 1 0),(6,.ptr 4 0),(7,.ptr 5 0),(8,.ptr 7 0)]) (h1:N[1]? =some (.cells (c.map aF) false)) (h2:dQ N ver ov (eK c (ls.take i)) vs (cD c (ls.take i)))
    (h4:N[4]? =some (.cells [oU] false)) (h6:N[6]? =some (ly (cy c (ls.take i)))) (h7:N[7]? =some (.cells [.map 6] false)) (h8:N[8]? =some .dfr) (h9:N[9]? =some (.loop T kbL)):jL ver c ls i (N.set 9 (.loop T lkL)):=by
  have l9:=(List.getElem?_eq_some_iff.1 h9).1;have g: ∀j o,j≠9→N[j]? =some o→(N.set 9 (.loop T lkL))[j]? =some o:=fun j o hj ho=>by rw[List.getElem?_set_ne (by omega)];exact ho
  exact⟨g 1 _ (by omega) h1,⟨ov,vs,h2.set _ h9 (fun cs e=>by cases e) (by omega) (by omega)⟩,g 4 _ (by omega) h4,g 6 _ (by omega) h6,g 7 _ (by omega) h7,g 8 _ (by omega) h8,T,by rw[List.getElem?_set_self l9],hT⟩
theorem uf{k:Kd}{c:List Val}{b:Nat}(hf8:∀f∈k.fs,f<8)(h:∀f,f<8→∀s∈bR c f,s.length≤b):∀w∈cI k c,w.length≤b:=by
 intro w hw;obtain⟨f,hf,rfl⟩:=List.mem_map.1 hw;have:=h f (hf8 f hf);cases hl:bR c f with
 |nil=>simp[hdB]
 |cons a t=>rw[hl]at this;exact this a (by simp)
theorem Cp{m:Bytes}{k:Kd}(hk:aV m=some k)(l:Ln)(n:Bytes)(c:List Val)(hc:c.length=8)(hv:l.v.length≤900000)(hcb: ∀f,f<8→ ∀s∈bR c f,s.length≤1000000):
    ad Tryz.prog 57 [encS l k n,.agg (c.map aF)] (.ret (.tup [aw (ua l k c).1,.bool (ua l k c).2])):=by
  obtain⟨k1,k2,k3,k4,k5⟩:=lu hk;unfold ua;by_cases hm:k.many=true
  · rw[if_pos hm]
    obtain⟨f,hf,_⟩:=k5 hm;have:=k2 f (by rw[hf];simp);obtain⟨fs,b,mm⟩:=k;simp only at hf hm;subst hf;subst hm;exact yU l f b n c hc this (by omega)
  · rw[if_neg hm]
    have hm':k.many=false:=by simpa using hm
    by_cases he:cC k l.v=cI k c
    · rw[if_pos he]
      exact yV l k n c hc (by omega) k2 hm' (by omega) he
    · rw[if_neg he]
      exact Cb l k n c hc (by omega) k2 hm' hv he (uf k2 hcb)
theorem vZ{c:List Val}{l:Ln}(h:aV (small l.n)=none):eG c l=(bare l,true):=by unfold eG;rw[h];rfl
theorem oV{c:List Val}{l:Ln}{k:Kd}(h:aV (small l.n)=some k):eG c l=ua (bare l) k c:=by unfold eG;rw[h];rfl
theorem Fg{A:List OB}{b:Nat}{S:List AV}{l:Ln}(h:A[b]? =some (.cells (bK l false) false)):ao Tryz.prog 46 (.ptr b 0) A=some (aw (bare l)):=by
 have:(bK l false).length=8:=ju l false;simp only[sW,ldG,h];rw[if_pos (by omega),List.drop_zero,vY];rfl
theorem sq{A:List OB}{b:Nat}{l:Ln}(h:A[b]? =some (.cells (bK l false) false)):ao Tryz.prog 68 (.ptr b 0) A=some (.agg (bK l false)):=by
 have:(bK l false).length=8:=ju l false;simp only[GX,ldG,h];rw[if_pos (by omega),List.drop_zero,List.take_of_length_le (by omega)]
theorem mh{A:List OB}{b:Nat}{c:List Val}{o:Bool}(h:A[b]? =some (.cells (c.map aF) o))(hc:c.length=8):ao Tryz.prog 27 (.ptr b 0) A=some (.agg (c.map aF)):=by
 simp only[pj,ldG,h];rw[if_pos (by simp[hc]),List.drop_zero,List.take_of_length_le (by simp[hc])]
theorem ug{A:List OB}{b:Nat}{v:AV}{o:Bool}(h:A[b]? =some (.cells [v] o)):ao Tryz.prog 93 (.ptr b 0) A=some v:=by
 simp[Jl,ldC,h]
theorem xN{A:List OB}(l:Ln):aA Tryz.prog 46 (.ptr A.length 0) (aw l) (A++[.cells [.str [],.str [],.nilsl,.str []] false])=some (A++[.cells [.str l.g,.str l.n,.vsl 3 l.x (l.ps.map aD),.str l.v] false]):=by
 rw[GC];simp[stC,aw,AV.cells,AV.isC,cz]
set_option maxRecDepth 8000 in
theorem uh{ver:Bytes}{c:List Val}{ls:List Ln}{i:Nat}{l:Ln}{K:List OB}(hl:ls[i]? =some l)(hi:i<900000)(hps:l.ps.length≤1000000)(hk:aV (small l.n)=none)(hJ:jL ver c ls i K):
    ∃K',YFn Tryz.prog 9 [dF l,.bool false] K (.ret (.bool true)) K'∧jL ver c ls (i+1) K':=by
  obtain⟨T,A,ov,vs,hT,hB,hAl,hY⟩:=so false hps hJ;have hol:(eK c (ls.take i)).length<1000000:=by have:=oT c (ls.take i);simp at this;omega
  obtain⟨N,ov',hsh,hg,hN,hkeep⟩:=hB.grow.add (bare l,false) hol;have gN: ∀j o,j≠3→(∀cs,o≠OB.cells cs true)→A[j]? =some o→N[j]? =some o:=fun j o h1 h2 h3=>hkeep j o h1 h3 h2;have gN9:=gN 9 _ (by omega) (fun cs e=>by cases e) hB.loop;refine⟨N.set 9 (.loop T lkL),hY _ _ fun l'=> ?_,?_⟩
  · have k1:=ug hB.fn
    have k2:=Fg (S:=[]) hB.said;have k3:=E9 (bare l,false);rw[←vX]at k2;show W Tryz.prog 162 _ _ (.seq (.seq (.region 9 _ _) _) _) _ _;generalize eF (bare l,false)=Q at*;refine .vc (by decide) ?_
    repeat'(first|(simp(disch:=first|omega|(simp only[zL];omega))only[go_sem,seval,k1,k2,k3])|(guard_target=~ aj _ _ _ _ _ _ _;refine aj.sh hsh ?_))
    exact⟨T,kbL,gN9,rfl,rfl⟩
  · have e1:eK c (ls.take (i+1))=eK c (ls.take i)++[(bare l,false)]:=by rw[mf hl,vZ hk];rfl
    have e2:cy c (ls.take (i+1))=cy c (ls.take i):=by rw[ja hl,Cm,hk]
    have e3:cD c (ls.take (i+1))=cD c (ls.take i):=by funext f;rw[ik hl,mN,hk];simp
    refine xM hT (gN 1 _ (by omega) (fun cs e=>by cases e) hB.con) (by rw[e1,e3];exact hg) (gN 4 _ (by omega) (fun cs e=>by cases e) hB.fn) (by rw[e2];exact gN 6 _ (by omega) (fun cs e=>by cases e) hB.th) (gN 7 _ (by omega) (fun cs e=>by cases e) hB.thc) (gN 8 _ (by omega) (fun cs e=>by cases e) hB.dfr) gN9
set_option maxRecDepth 8000 in
theorem ui{ver:Bytes}{c:List Val}{ls:List Ln}{i:Nat}{l:Ln}{k:Kd}{K:List OB}(hc:c.length=8)(hcb: ∀f,f<8→ ∀s∈bR c f,s.length≤1000000)(hl:ls[i]? =some l)(hv:l.v.length≤900000)(hps:l.ps.length≤1000000)(hk:aV (small l.n)=some k)(hst:(eG c l).2=false)(hJ:jL ver c ls i K):
    ∃K',YFn Tryz.prog 9 [dF l,.bool true] K (.ret (.bool true)) K'∧jL ver c ls (i+1) K':=by
  obtain⟨T,A,ov,vs,hT,hB,hAl,hY⟩:=so true hps hJ;have hld:=Cp hk (bare l) (small l.n) c hc hv hcb;rw[←oV hk,hst,←mg hk]at hld;obtain⟨m,hm⟩: ∃m,m=(eG c l).1:=⟨_,rfl⟩
  rw[←hm]at hld;obtain⟨E,hE⟩: ∃E,E=OB.cells [.str m.g,.str m.n,.vsl 3 m.x (m.ps.map aD),.str m.v] false:=⟨_,rfl⟩
  have g: ∀j o,A[j]? =some o→(A++[E])[j]? =some o:=fun j o h=>aZ h;refine⟨(A++[E]).set 9 (.loop T lkL),hY _ _ fun l'=> ?_,?_⟩
  · have k1:=sq hB.said
    have k2:=mh hB.con hc;have k3:=xN (A:=A) m;rw[←hE]at k3;have hh1:=qA l false;have hh2:=br c;show W Tryz.prog 162 _ _ (.seq (.seq (.region 9 _ _) _) _) _ _;generalize bK l false=Sg at*;generalize aw m=Q at*;refine .vc (by decide) ?_
    repeat'(first|(simp(disch:=first|omega|(simp only[zL];omega))only[go_sem,seval,k1,k2,k3])|((with_reducible first|apply aj.pure|apply ar.pure);(with_reducible exact hld);(first|rfl|simp only[go_sem,hh1,hh2])))
    exact⟨T,kbL,g 9 _ hB.loop,rfl,rfl⟩
  · have e1:eK c (ls.take (i+1))=eK c (ls.take i):=by rw[mf hl,hst];simp
    have e2:cy c (ls.take (i+1))=cy c (ls.take i):=by rw[ja hl,Cm,hk,hst];rfl
    have e3:cD c (ls.take (i+1))=cD c (ls.take i):=by funext f;rw[ik hl,mN,hk,hst];simp
    exact xM hT (g 1 _ hB.con) (by rw[e1,e3];exact hB.grow.more _) (g 4 _ hB.fn) (by rw[e2];exact g 6 _ hB.th) (g 7 _ hB.thc) (g 8 _ hB.dfr) (g 9 _ hB.loop)
theorem dQ.tell{H:List OB}{ver:Bytes}{ov:AV}{L:List (Ln×Bool)}{vs:List AV}{xs:Nat→List Bytes}(h:dQ H ver ov L vs xs){f:Nat}(hf:f<8)(s:Bytes)(hl:(xs f).length<1000000):
    ∃ v M,ao Tryz.prog 25 (.ptr 5 f) H=some v∧aE Tryz.prog 25 25 (deN v) (.vsl 0 true [.str s]) H=some (.sl H.length 0 ((xs f).length+1) 0,M)∧
      aA Tryz.prog 25 (.ptr 5 f) (.sl H.length 0 ((xs f).length+1) 0) M=some (M.set 5 (.cells (vs.set f (.sl H.length 0 ((xs f).length+1) 0)) false))∧
      dQ (M.set 5 (.cells (vs.set f (.sl H.length 0 ((xs f).length+1) 0)) false)) ver ov L (vs.set f (.sl H.length 0 ((xs f).length+1) 0)) (ll xs f (xs f++[s]))∧
      ∀(j:Nat) (o:OB),H[j]? =some o→(∀cs,o≠OB.cells cs true)→M[j]? =some o:=by
  obtain⟨v,M,hv,hld,hap,hst,hc,hlen,hk⟩:=h.con.app hf s hl;have hk2: ∀j o,H[j]? =some o→(∀cs,o≠OB.cells cs true)→M[j]? =some o:=fun j o ho hn=>by rw[hk j (List.getElem?_eq_some_iff.1 ho).1 (h.con.free ho hn)];exact ho
  refine⟨v,M,hld,hap,hst,⟨by rw[List.getElem?_set_ne (by omega)];exact hk2 2 _ h.two (fun cs e=>by cases e),?_,?_,hc,?_⟩,hk2⟩
  · rw[List.getElem?_set_ne (by omega)];exact hk2 3 _ h.blk (fun cs e=>by cases e)
  · refine h.own.fE fun d n e=> ?_
    obtain⟨cs,hcs⟩:=h.own.lt e;have hd5:d≠5:=by rintro rfl;rw[h.con.blk]at hcs;injection(Option.some.inj hcs)with _ h;cases h
    rw[List.getElem?_set_ne (by omega),hk d (List.getElem?_eq_some_iff.1 hcs).1 (h.apart d n e)]
  · intro d n e g m hg
    obtain⟨cs,hcs⟩:=h.own.lt e;have hdl:=(List.getElem?_eq_some_iff.1 hcs).1;rw[List.getElem?_set]at hg;split at hg
    · split at hg
      · injection(Option.some.inj hg)with e1;omega
      · cases hg
    · exact h.apart d n e g m hg
theorem uj{c:List Val}{ls:List Ln}{i:Nat}{l:Ln}{k:Kd}(hl:ls[i]? =some l)(hk:aV (small l.n)=some k)(hst:(eG c l).2=true):cy c (ls.take (i+1))=if small l.n∈cy c (ls.take i)then cy c (ls.take i)else cy c (ls.take i)++[small l.n]:=by
 rw[ja hl,Cm,hk];simp only[hst,if_true]
set_option maxRecDepth 8000 in
theorem sr {ver:Bytes} {c:List Val} {ls:List Ln} {i:Nat} {l:Ln} {k:Kd} {K:List OB} (hc:c.length=8) (hcb: ∀f,f<8→ ∀s∈bR c f,s.length≤1000000) (hl:ls[i]? =some l) (hi:i<900000) (hv:l.v.length≤900000) (hps:l.ps.length≤1000000) (hk:aV (small l.n)=some k) (hst:(eG c l).2=true) (hJ:jL ver c ls i K):
    ∃K',YFn Tryz.prog 9 [dF l,.bool true] K (.ret (.bool true)) K'∧jL ver c ls (i+1) K':=by
  obtain⟨T,A,ov,vs,hT,hB,hAl,hY⟩:=so true hps hJ;have hld:=Cp hk (bare l) (small l.n) c hc hv hcb;rw[←oV hk,hst,←mg hk]at hld;have e1:eK c (ls.take (i+1))=eK c (ls.take i)++[((eG c l).1,false)]:=by rw[mf hl,hst];rfl
  obtain⟨m,hm⟩: ∃m,m=(eG c l).1:=⟨_,rfl⟩
  rw[←hm]at hld e1;obtain⟨E,hE⟩: ∃E,E=OB.cells [.str m.g,.str m.n,.vsl 3 m.x (m.ps.map aD),.str m.v] false:=⟨_,rfl⟩
  have hol:(eK c (ls.take i)).length<1000000:=by have:=oT c (ls.take i);simp at this;omega
  obtain⟨N,ov',hsh,hg,hN,hkeep⟩:=(hB.grow.more [E]).add (m,false) hol;have gN: ∀j o,j≠3→(∀cs,o≠OB.cells cs true)→A[j]? =some o→N[j]? =some o:=fun j o h1 h2 h3=>hkeep j o h1 (aZ h3) h2;have gN6:=gN 6 _ (by omega) (fun cs e=>by cases e) hB.th;obtain⟨N2,hN2⟩: ∃N2,N2=N.set 6 (ly (cy c (ls.take (i+1)))):=⟨_,rfl⟩
  have k5:=uc gN6 (small l.n);rw[←uj hl hk hst,←hN2]at k5;have gN2: ∀j o,j≠6→N[j]? =some o→N2[j]? =some o:=fun j o h1 h2=>by rw[hN2,List.getElem?_set_ne (by omega)];exact h2
  have gA2: ∀j o,j≠3→j≠6→(∀cs,o≠OB.cells cs true)→A[j]? =some o→N2[j]? =some o:=fun j o h1 h6 h2 h3=>gN2 j o h6 (gN j o h1 h2 h3);have hg2:dQ N2 ver ov' (eK c (ls.take (i+1))) vs (cD c (ls.take i)):=by rw[hN2,e1];exact hg.set _ gN6 (fun cs e=>by cases e) (by omega) (by omega)
  have g26:N2[6]? =some (ly (cy c (ls.take (i+1)))):=by rw[hN2,List.getElem?_set_self (List.getElem?_eq_some_iff.1 gN6).1]
  have gb2:N2[K.length]? =some (.cells (bK l false) false):=gA2 _ _ (by have:=hB.b10;omega) (by have:=hB.b10;omega) (fun cs e=>by cases e) hB.said;have k1:=sq hB.said;have k2:=mh hB.con hc;have k3:=xN (A:=A) m;rw[←hE]at k3;have k4:ao Tryz.prog 93 (.ptr 4 0) (A++[E])=some oU:=ug (aZ hB.fn);have k6:ao Tryz.prog 46 (.ptr A.length 0) (A++[E])=some (aw m):=by
    simp only[sW,ldG,hE,List.getElem?_concat_length];rfl
  have k7:=E9 (m,false);rw[vX]at k7;have k8:ao Tryz.prog 60 (.ptr 7 0) N=some (.map 6):=by simp[yp,ldC,gN 7 _ (by omega) (fun cs e=>by cases e) hB.thc]
  have gbN:N[K.length]? =some (.cells (bK l false) false):=gN _ _ (by have:=hB.b10;omega) (fun cs e=>by cases e) hB.said;have k9:ao Tryz.prog 9 (.ptr K.length 7) N=some (.str (small l.n)):=by simp[ld9,ldC,gbN,Fc]
  have k10:ao Tryz.prog 4 (.ptr K.length 6) N2=some (.bool k.many):=by simp[ld4,ldC,gb2,Ff hk]
  have hh1:=qA l false;have hh2:=br c;rw[vX]at hsh;by_cases hmy:k.many=true
  · obtain⟨kl,kf,_,_,km⟩:=lu hk
    obtain⟨f,hf,hf6⟩:=km hmy;have hf8:f<8:=kf f (by rw[hf];simp);obtain⟨s,hs⟩: ∃s,s=(cC k l.v).headD []:=⟨_,rfl⟩
    have hvl:(cC k l.v)[0]? =some s:=by
      have:(cC k l.v).length=1:=by simp[cC,hf]
      obtain⟨a,ha⟩:=List.length_eq_one_iff.1 this;rw[hs,ha];rfl
    have htl:(cD c (ls.take i) f).length<1000000:=by have:=zb c (ls.take i) f;simp at this;omega
    obtain⟨v,M,q1,q2,q3,hg3,q4⟩:=hg2.tell hf8 s htl;have e3:cD c (ls.take (i+1))=ll (cD c (ls.take i)) f (cD c (ls.take i) f++[s]):=by
      funext g;rw[ik hl,mN,hk];simp only[hst,hmy,hf,List.headD_cons,Bool.true_and];unfold ll;by_cases hgf:g=f
      · subst hgf;simp[hs]
      · rw[if_neg hgf,if_neg (by simp;omega)];simp
    rw[←e3]at hg3;obtain⟨N3,hN3⟩: ∃N3,N3=M.set 5 (.cells (vs.set f (.sl N2.length 0 ((cD c (ls.take i) f).length+1) 0)) false):=⟨_,rfl⟩
    rw[←hN3]at hg3 q3;have g3: ∀j o,j≠5→(∀cs,o≠OB.cells cs true)→N2[j]? =some o→N3[j]? =some o:=fun j o h1 h2 h3=>by rw[hN3,List.getElem?_set_ne (by omega)];exact q4 j o h3 h2
    have gA3: ∀j o,j≠3→j≠5→j≠6→(∀cs,o≠OB.cells cs true)→A[j]? =some o→N3[j]? =some o:=fun j o h1 h5 h6 h2 h3=>g3 j o h5 h2 (gA2 j o h1 h6 h2 h3);have g39:=gA3 9 _ (by omega) (by omega) (by omega) (fun cs e=>by cases e) hB.loop;refine⟨N3.set 9 (.loop T lkL),hY _ _ fun l'=> ?_,?_⟩
    · have hlf: ∀X:List OB,X[K.length]? =some (.cells (bK l false) false)→ao Tryz.prog 64 (.ptr K.length 4) X=some (fsV k):=by
        intro X hX;simp[GO,ldC,hX,Fe hk]
      have gbM:M[K.length]? =some (.cells (bK l false) false):=q4 _ _ gb2 (fun cs e=>by cases e);have p1:=hlf _ gb2;have p2:=hlf _ gbM;have p3: ∀X,ak Tryz.prog 64 (fsV k) (.int .i64 0) X=some (.vptr [.int .i64 (f:Int)]):=fun X=>yy (v:=.int .i64 (f:Int)) (by simp[hf]) rfl X;have p4:=iv 5 f hf8;have p5:=lh (bare l) k (small l.n) (by show l.v.length≤_;omega) (by omega);rw[←mg hk]at p5;have p6: ∀X,ak Tryz.prog 25 (.vsl 0 false ((cC k (bare l).v).map .str)) (.int .i64 0) X=some (.vptr [.str s]):=fun X=>eJ (v:=.str s) (by show((cC k l.v).map AV.str)[0]? =_;simp[hvl]) rfl X;have p7:=sq gb2
      rw[hmy]at k10;have hde:deN (AV.sl N2.length 0 ((cD c (ls.take i) f).length+1) 0)=.sl N2.length 0 ((cD c (ls.take i) f).length+1) 0:=rfl;show W Tryz.prog 162 _ _ (.seq (.seq (.region 9 _ _) _) _) _ _;generalize(AV.sl N2.length 0 ((cD c (ls.take i) f).length+1) 0)=v2 at*;generalize bK l false=Sg at*;generalize aw m=Q at*;generalize fsV k=Fk at*;generalize cC k (bare l).v=Vk at*;refine .vc (by decide) ?_
      repeat'(first|(simp(disch:=first|omega|(simp only[zL];omega))only[go_sem,seval,k1,k2,k3,k4,k5,k6,k7,k8,k9,k10])|(guard_target=~ aj _ _ _ _ _ _ _;refine aj.sh hsh ?_)|((with_reducible first|apply aj.pure|apply ar.pure);(with_reducible exact hld);(first|rfl|simp only[go_sem,hh1,hh2])))
      refine W.bw [17,19] [false,false,false,false,false,false,false,false,false,false,false,false,false,false,false,false,false,true,false,true] [(2,18),(3,18),(4,18)] mixed (by kernel_rfl) (by kernel_rfl) (by kernel_rfl) ?_
      repeat'(first|(simp(disch:=first|omega|(simp only[zL];omega))only[go_sem,seval,ma,p1,p2,p3,p4,p6,p7,q1,q2,q3,hde])|((with_reducible first|apply aj.pure|apply ar.pure);(with_reducible exact p5);(first|rfl|simp only[go_sem,hh1])))
      exact⟨T,kbL,g39,rfl,rfl⟩
    · exact xM hT (gA3 1 _ (by omega) (by omega) (by omega) (fun cs e=>by cases e) hB.con) hg3 (gA3 4 _ (by omega) (by omega) (by omega) (fun cs e=>by cases e) hB.fn) (g3 6 _ (by omega) (fun cs e=>by cases e) g26)
        (gA3 7 _ (by omega) (by omega) (by omega) (fun cs e=>by cases e) hB.thc) (gA3 8 _ (by omega) (by omega) (by omega) (fun cs e=>by cases e) hB.dfr) g39
  · have hmy':k.many=false:=by simpa using hmy
    rw[hmy']at k10;have g29:=gA2 9 _ (by omega) (by omega) (fun cs e=>by cases e) hB.loop;refine⟨N2.set 9 (.loop T lkL),hY _ _ fun l'=> ?_,?_⟩
    · show W Tryz.prog 162 _ _ (.seq (.seq (.region 9 _ _) _) _) _ _
      generalize bK l false=Sg at*;generalize aw m=Q at*;refine .vc (by decide) ?_
      repeat'(first|(simp(disch:=first|omega|(simp only[zL];omega))only[go_sem,seval,k1,k2,k3,k4,k5,k6,k7,k8,k9,k10])|(guard_target=~ aj _ _ _ _ _ _ _;refine aj.sh hsh ?_)|((with_reducible first|apply aj.pure|apply ar.pure);(with_reducible exact hld);(first|rfl|simp only[go_sem,hh1,hh2])))
      exact⟨T,kbL,g29,rfl,rfl⟩
    · have e3:cD c (ls.take (i+1))=cD c (ls.take i):=by funext f;rw[ik hl,mN,hk];simp[hmy']
      rw[←e3]at hg2;exact xM hT (gA2 1 _ (by omega) (by omega) (fun cs e=>by cases e) hB.con) hg2 (gA2 4 _ (by omega) (by omega) (fun cs e=>by cases e) hB.fn) g26 (gA2 7 _ (by omega) (by omega) (fun cs e=>by cases e) hB.thc) (gA2 8 _ (by omega) (by omega) (fun cs e=>by cases e) hB.dfr) g29
/-! ### Plain -/
def bh:List Bytes:=[nFN,nN,dU,bA,cu]
def qB(c:List Val)(n:Bytes):List Bytes:=match aV n with|some k=>cI k c|none=>[]
def kh(c:List Val)(n:Bytes):Bytes:=Lib.join ((qB c n).map esc++(if n=nN then [[],[],[]]else [])) [59]
def lnN(n v:Bytes):Ln×Bool:=(⟨[],n,true,[],v⟩,true)
def su(th:List Bytes)(c:List Val)(n:Bytes):List (Ln×Bool):=if inB n th=true∨(qB c n).flatten=[]then []else [lnN n (kh c n)]
def eL(th:List Bytes)(c:List Val)(ns:List Bytes):List (Ln×Bool):=ns.flatMap (su th c)
theorem wa{th:List Bytes}{c:List Val}{ns:List Bytes}{i:Nat}{n:Bytes}(h:ns[i]? =some n):eL th c (ns.take (i+1))=eL th c (ns.take i)++su th c n:=by
 rw[List.take_add_one,h,eL,List.flatMap_append];simp[eL]
theorem Cq(th:List Bytes)(c:List Val)(n:Bytes):(su th c n).length≤1:=by unfold su;split<;>simp
theorem qC(th:List Bytes)(c:List Val)(ns:List Bytes):(eL th c ns).length≤ns.length:=by
 induction ns with
 |nil=>simp[eL]
 |cons n ns ih=>have:=Cq th c n;simp only[eL,List.flatMap_cons,List.length_append,List.length_cons]at ih ⊢;omega
theorem uk{i:Nat}{n:Bytes}(h:bh[i]? =some n):∃k,aV n=some k∧k.many=false∧qB=qB∧(n=nN→k.fs.length=2):=by
 match i,h with
 |0,h=>cases h;exact⟨_,rfl,rfl,rfl,by decide⟩
 |1,h=>cases h;exact⟨_,rfl,rfl,rfl,by decide⟩
 |2,h=>cases h;exact⟨_,rfl,rfl,rfl,by decide⟩
 |3,h=>cases h;exact⟨_,rfl,rfl,rfl,by decide⟩
 |4,h=>cases h;exact⟨_,rfl,rfl,rfl,by decide⟩
 |i+5,h=>simp[bh]at h
/-! ### Pieces -/
theorem Cr(n:Bytes)(H:List OB):dA Tryz.prog 97 (.vmap (fc.map .str) fW) (.str n) false H=some (.agg (kdL (aV n))):=by
 have h:=kn n;generalize aV n=o at h ⊢;cases h with
 |none _ h1 h2 h3 h4 h5 h6 h7=>
  have e:∀m,n≠m→(n==m)=false:=fun m h=>by simp[h]
  simp[dA,ulK,Tryz.underlying9,zaK,nD,fc,fj,iE,e _ h1,e _ h2,e _ h3,e _ h4,e _ h5,e _ h6,e _ h7,kdL]
 |_=>simp[dA,ulK,Tryz.underlying9,zaK,nD,fc,fW,fj,iE,nFN,nN,dU,bA,cu,bB,dV,kdL,sa,fsV]
theorem wb(k:Kd):AV.hf (fsV k)=true:=by
 rw[fsV,AV.hf,aR,List.all_eq_true];intro v hv;obtain⟨l,_,rfl⟩:=List.mem_map.1 hv;rfl
theorem KY{m:Bytes}{k:Kd}(hk:aV m=some k)(c:List Val)(hc:c.length=8)(H:List OB):
    aY Tryz.prog 58 [.agg [fsV k,.bool k.parts,.bool k.many],.agg (c.map aF)] H (.ret (.sl H.length 0 (cI k c).length 0)) (H++[.cells ((cI k c).map .str) true]):=by
  obtain⟨k1,k2,k3,k4,k5⟩:=lu hk;have hne:cI k c≠ []:=by
    intro e;have:=congrArg List.length e;simp[cI]at this;exact k4 this
  have hh:AV.hfs [.agg [fsV k,.bool k.parts,.bool k.many],.agg (c.map aF)]=true:=by
    simp only[AV.hfs,wb,AV.hf,br,Bool.and_self]
  refine ba.one ((ba.frame hh ((xE k c hc (by omega) k2).mono fun o K h=>fa h)).mono ?_);rintro o K (⟨r,rfl,hr,⟨e,rfl⟩,rfl⟩|⟨off,len,wd,cs,opn,rfl,hcs,⟨rfl,rfl,rfl,rfl,rfl⟩,rfl⟩)
  · exact(hne e).elim
  · exact⟨rfl,rfl⟩
theorem Ct{H:List OB}{d:Nat}{l:List Bytes}{o:Bool}{out:Out}(h:H[d]? =some (.cells (l.map .str) o))(ho:out.scalar=true):aG H [.sl d 0 l.length 0] out=some [.vsl 0 false (l.map .str)]:=by
 refine ed rfl ho ?_;have:=iY (k:=19) h (Nat.le_refl _);rw[List.take_length]at this;simp only[List.mapM_cons,List.mapM_nil,this];rfl
theorem qD{H:List OB}{d:Nat}{l:List Bytes}{o:Bool}{s:Bytes}{out:Out}(h:H[d]? =some (.cells (l.map .str) o))(ho:out.scalar=true):aG H [.sl d 0 l.length 0,.str s] out=some [.vsl 0 false (l.map .str),.str s]:=by
 refine ed rfl ho ?_;have:=iY (k:=19) h (Nat.le_refl _);rw[List.take_length]at this;simp only[List.mapM_cons,List.mapM_nil,this,dj (show AV.hf (.str s)=true from rfl)];rfl
theorem KZ{H:List OB}{d:Nat}{a:List Bytes}(hd:H[d]? =some (.cells (a.map .str) true))(ha:a.length=2):lI Tryz.prog 25 3 (.sl d 0 2 0) (.int .i64 3) H=some (.sl H.length 0 5 0,H.set d .dead++[.cells ((a++[[],[],[]]).map .str) true]):=by
 have hi:wq Tryz.prog 3=true:=by kernel_rfl
 simp only[lI,Tryz.underlying25,hi,gH,Gd,hd];rw[if_pos (by simp[ha,AV.cells,AV.isC,esz])];simp[rep,AV.cells,List.replicate]
theorem bdQ(n v:Bytes):bW Tryz.prog 46 [(1,.str n),(3,.str v)]=some (eF (lnN n v)):=by kernel_rfl
noncomputable def lp2:Code:=match Tryz.f26.body with
 |some (.seq _ (.seq _ (.seq _ (.seq _ (.seq _ (.seq _ (.seq (.seq _ (.block _ (.loop c))) _)))))))=>c
 |_=>.skip
noncomputable def lp6:Code:=match Tryz.f26.body with
 |some (.seq _ (.seq _ (.seq _ (.seq _ (.seq _ (.seq _ (.seq _ (.seq (.seq _ (.block _ (.loop c))) _))))))))=>c
 |_=>.skip
abbrev T1:List (Nat×AV):=[(3,.ptr 1 0),(4,.ptr 2 0),(5,.ptr 3 0),(6,.ptr 4 0),(7,.ptr 5 0),(8,.ptr 7 0)]
abbrev T2(i:Nat):List (Nat×AV):=(83,.int .i64 (i:Int))::(82,.int .i64 5)::(81,.vsl 0 true (bh.map .str))::T1
structure oW (H:List OB) (c:List Val) (ver:Bytes) (L:List (Ln×Bool)) (xs:Nat→List Bytes) (th:List Bytes):Prop where
 con:H[1]? =some (.cells (c.map aF) false)
 grow:∃ov vs,dQ H ver ov L vs xs
 fn:H[4]? =some (.cells [oU] false)
 th:H[6]? =some (ly th)
 thc:H[7]? =some (.cells [.map 6] false)
 dfr:H[8]? =some .dfr
theorem oW.fE{H K:List OB}{c:List Val}{ver:Bytes}{L:List (Ln×Bool)}{xs:Nat→List Bytes}{th:List Bytes}(h:oW H c ver L xs th)(hk:∀(j:Nat) (o:OB),H[j]? =some o→K[j]? =some o):oW K c ver L xs th:=by
 obtain⟨ov,vs,hg⟩:=h.grow;exact⟨hk _ _ h.con,⟨ov,vs,hg.fE fun j o hj _=>hk j o hj⟩,hk _ _ h.fn,hk _ _ h.th,hk _ _ h.thc,hk _ _ h.dfr⟩
theorem oW.add{H:List OB}{c:List Val}{ver:Bytes}{L:List (Ln×Bool)}{xs:Nat→List Bytes}{th:List Bytes}(h:oW H c ver L xs th)(q:Ln×Bool)(hl:L.length<1000000):
    ∃N,aY Tryz.prog 55 [.vsl 5 true [eF q],.ptr 3 0] H (.ret (.tup [])) N∧oW N c ver (L++[q]) xs th:=by
  obtain⟨ov,vs,hg⟩:=h.grow;obtain⟨N,ov',hsh,hg',_,hk⟩:=hg.add q hl;exact⟨N,hsh,hk 1 _ (by omega) h.con (fun cs e=>by cases e),⟨ov',vs,hg'⟩,hk 4 _ (by omega) h.fn (fun cs e=>by cases e),hk 6 _ (by omega) h.th (fun cs e=>by cases e),hk 7 _ (by omega) h.thc (fun cs e=>by cases e),hk 8 _ (by omega) h.dfr (fun cs e=>by cases e)⟩
def inv2(c:List Val)(ver:Bytes)(L:List (Ln×Bool))(xs:Nat→List Bytes)(th:List Bytes)(i:Nat)(a:St):Prop:=aC a.T (T2 i)∧oW a.H c ver (L++eL th c (bh.take i)) xs th∧a.D=[.mark 8]∧i≤5
theorem Fh{c:List Val}{n:Bytes}{k:Kd}(hk:aV n=some k):qB c n=cI k c:=by unfold qB;rw[hk]
set_option maxRecDepth 8000 in
theorem K0 {c:List Val} {ver:Bytes} {L:List (Ln×Bool)} {xs:Nat→List Bytes} {th:List Bytes} {Q:Ex→St→Prop} {a:St} (hc:c.length=8) (hcb: ∀f,f<8→ ∀s∈bR c f,s.length≤1000000) (hL:L.length≤900000) (h:inv2 c ver L xs th 0 a)
    (hQ: ∀a',inv2 c ver L xs th 5 a'→Q .normal a'):W Tryz.prog 162 0 none (.loop lp2) (aO 2 Q) a:=by
  refine W.loop (X:=Nat) (fun i a=>inv2 c ver L xs th i a) (fun i=>5 - i) 0 h ?_;clear h a;rintro i ⟨T,H,D⟩ ⟨hT,hI,rfl,hi⟩;simp only at hT hI;refine W.bG _ hT ?_;show W Tryz.prog 162 0 none (.seq (.region 18 _ _) (.seq (.cond _ .skip (.exit 2)) _)) _ _;by_cases h:i<5
  · obtain ⟨n,hn,_⟩:=drop_at (show i<bh.length from h)
    obtain⟨k,hk,hm,_,hnn⟩:=uk hn;obtain⟨k1,k2,k3,k4,k5⟩:=lu hk;have hw:=Fh (c:=c) hk;have hwd:=KY hk c hc H;have hwl:(cI k c).length=k.fs.length:=by simp[cI]
    have hwb:=uf k2 hcb;have hnt:=wa (th:=th) (c:=c) hn;have hnl:(eL th c (bh.take i)).length≤5:=by have:=qC th c (bh.take i);simp at this;have:bh.length=5:=rfl;omega
    have hia: ∀X,ak Tryz.prog 25 (.vsl 0 true (bh.map .str)) (.int .i64 (i:Int)) X=some (.vptr [.str n]):=fun X=>eJ (v:=.str n) (by simp[hn]) rfl X;have hkv:=vQ;have hlk:=Cr n;rw[hk,lz]at hlk;obtain⟨ws,hws⟩: ∃ws,ws=cI k c:=⟨_,rfl⟩
    rw[←hws]at hwd hwl hwb hw;have p1:=mh hI.con hc;have hh1:=br c;have hh2:=wb k;obtain⟨H1,hH1⟩: ∃H1,H1=H++[OB.cells (ws.map .str) true]:=⟨_,rfl⟩
    rw[←hH1]at hwd;have hI1:oW H1 c ver (L++eL th c (bh.take i)) xs th:=hI.fE fun j o hj=>by rw[hH1];exact aZ hj
    have g1:H1[H.length]? =some (.cells (ws.map .str) true):=by rw[hH1];simp
    have p2:ao Tryz.prog 60 (.ptr 7 0) H1=some (.map 6):=by simp[yp,ldC,hI1.thc]
    have p3:=jt hI1.th n;have hem:=B3 false ws (by omega) (by have:=lq hwb;omega);have hle:=Ct (out:=.ret (.bool (ws.flatten==[]))) g1 rfl;have skip:su th c n=[]→ ∀a',a'.H=H1→a'.D=[.mark 8]→aC a'.T (T2 (i+1))→ ∃y,inv2 c ver L xs th y a'∧5 - y<5 - i:=by
      rintro e ⟨T',H',D'⟩ rfl rfl h3;exact⟨i+1,⟨h3,by rw[hnt,e,List.append_nil];exact hI1,rfl,h⟩,by omega⟩
    generalize hF:fsV k=Fk at*;generalize hKd:(AV.vmap (fc.map .str) fW)=Kd at*;by_cases hb:inB n th=true
    · have hnew:su th c n=[]:=if_pos (.inl hb)
      rw[hb]at p3;refine .vc (by decide) ?_
      repeat'(first|(simp(disch:=first|omega|(simp only[zL];omega))only[go_sem,Nat.reduceEqDiff,↓reduceIte,Nat.reduceAdd,Nat.reduceMul,Nat.reduceSub,Nat.reduceLeDiff,Nat.reduceLT,Int.reduceToNat,Int.reduceLE,hia]))
      refine W.bw [4] [false,false,false,false,true,false] [] mixed (by kernel_rfl) (by kernel_rfl) (by kernel_rfl) ?_
      repeat'(first|(simp(disch:=first|omega|(simp only[zL];omega))only[go_sem,Nat.reduceEqDiff,↓reduceIte,Nat.reduceAdd,Nat.reduceMul,Nat.reduceSub,Nat.reduceLeDiff,Nat.reduceLT,Int.reduceToNat,Int.reduceLE,hlk,p1,p2,p3])|(guard_target=~ ar _ _ _ _ _ _ _;refine ar.sh hwd ?_)|((with_reducible first|apply aj.pure|apply ar.pure);(with_reducible exact hkv);(first|rfl|simp only[go_sem,hh1,hh2])))
      exact skip hnew _ rfl rfl ⟨rfl,rfl,rfl,rfl,rfl,rfl,rfl,rfl,rfl,trivial⟩
    have hb':inB n th=false:=by simpa using hb
    rw[hb']at p3;by_cases he:ws.flatten=[]
    · have hnew:su th c n=[]:=if_pos (.inr (by rw[hw];exact he))
      rw[beq_iff_eq.2 he]at hem hle;refine .vc (by decide) ?_
      repeat'(first|(simp(disch:=first|omega|(simp only[zL];omega))only[go_sem,Nat.reduceEqDiff,↓reduceIte,Nat.reduceAdd,Nat.reduceMul,Nat.reduceSub,Nat.reduceLeDiff,Nat.reduceLT,Int.reduceToNat,Int.reduceLE,hia]))
      refine W.bw [4] [false,false,false,false,true,false] [] mixed (by kernel_rfl) (by kernel_rfl) (by kernel_rfl) ?_
      repeat'(first|(simp(disch:=first|omega|(simp only[zL];omega))only[go_sem,Nat.reduceEqDiff,↓reduceIte,Nat.reduceAdd,Nat.reduceMul,Nat.reduceSub,Nat.reduceLeDiff,Nat.reduceLT,Int.reduceToNat,Int.reduceLE,hlk,p1,p2,p3])|(guard_target=~ ar _ _ _ _ _ _ _;refine ar.sh hwd ?_)|(guard_target=~ aj _ _ _ _ _ _ _;refine aj.aG _ hem hle ?_)|((with_reducible first|apply aj.pure|apply ar.pure);(with_reducible exact hkv);(first|rfl|simp only[go_sem,hh1,hh2])))
      exact skip hnew _ rfl rfl ⟨rfl,rfl,rfl,rfl,rfl,rfl,rfl,rfl,rfl,trivial⟩
    have hnew:su th c n=[lnN n (kh c n)]:=if_neg (by rw[hw,hb'];simpa using he);rw[beq_eq_false_iff_ne.2 he]at hem hle;have hln: ∀o n M,aI Tryz.prog 25 (.sl o 0 n 0) M=some (.int .i64 n):=by intro o n M;simp[aI,Tryz.underlying25]
    refine .vc (by decide) ?_
    repeat'(first|(simp(disch:=first|omega|(simp only[zL];omega))only[go_sem,Nat.reduceEqDiff,↓reduceIte,Nat.reduceAdd,Nat.reduceMul,Nat.reduceSub,Nat.reduceLeDiff,Nat.reduceLT,Int.reduceToNat,Int.reduceLE,hia]))
    refine W.bw [4] [false,false,false,false,true,false] [] mixed (by kernel_rfl) (by kernel_rfl) (by kernel_rfl) ?_
    repeat'(first|(simp(disch:=first|omega|(simp only[zL];omega))only[go_sem,Nat.reduceEqDiff,↓reduceIte,Nat.reduceAdd,Nat.reduceMul,Nat.reduceSub,Nat.reduceLeDiff,Nat.reduceLT,Int.reduceToNat,Int.reduceLE,hlk,p1,p2,p3,hln])|(guard_target=~ ar _ _ _ _ _ _ _;refine ar.sh hwd ?_)|(guard_target=~ aj _ _ _ _ _ _ _;refine aj.aG _ hem hle ?_)|((with_reducible first|apply aj.pure|apply ar.pure);(with_reducible exact hkv);(first|rfl|simp only[go_sem,hh1,hh2])))
    have l1:H.length<H1.length:=by rw[hH1];simp
    have hmm: ∀j,(dW (ws.take j) ws).length=ws.length:=fun j=>by rw[np];simp;omega
    have hm0:ew H1 H.length true (dW (ws.take 0) ws)=H1:=by rw[List.take_zero,dW];exact iX g1
    refine W.bc (X:=Nat) (fun j=>(101,.int .i64 (j:Int))::(100,.int .i64 ws.length)::(15,.sl H.length 0 ws.length 0)::(14,.str n)::T2 i) (fun j=>ew H1 H.length true (dW (ws.take j) ws)) (fun j=>j≤ws.length) (fun j=>ws.length - j) 0 (Nat.zero_le _) ⟨rfl,rfl,rfl,rfl,rfl,rfl,rfl,rfl,rfl,rfl,rfl,rfl,rfl,trivial⟩ hm0.symm ?_;intro j hj;by_cases h3:j<ws.length
    · obtain⟨s,hs,_⟩:=drop_at h3
      have hstep:=ub (cs:=ws) hs;rw[hmm,if_pos h3]at hstep;have hmj:=hmm j;have hcj:(dW (ws.take j) ws)[j]? =some s:=by
        rw[Ip,if_neg (by simp;omega),hs]
      generalize dW (ws.take j) ws=p at hstep hmj hcj ⊢;have q1:=gz (d:=H.length) 0 ws.length j h3;have q2:=mc (opn:=true) l1 hcj;have q3:=oM (opn:=true) l1 (c:=p) (i:=j) (by omega) (esc s);rw[←hstep]at q3;have q4:=IB s (hwb s (List.mem_of_getElem? hs));refine .vc (by decide) ?_
      repeat'(first|(simp(disch:=first|omega|(simp only[zL];omega))only[go_sem,Nat.reduceEqDiff,↓reduceIte,Nat.reduceAdd,Nat.reduceMul,Nat.reduceSub,Nat.reduceLeDiff,Nat.reduceLT,Int.reduceToNat,Int.reduceLE,q1,q2,q3])|((with_reducible first|apply aj.pure|apply ar.pure);(with_reducible exact q4);(first|rfl|simp only[go_sem])))
      exact⟨j+1,h3,by omega,⟨rfl,rfl,rfl,rfl,rfl,rfl,rfl,rfl,rfl,rfl,rfl,rfl,rfl,trivial⟩,rfl⟩
    · have e:j=ws.length:=by omega
      subst e;have hme:dW ws ws=ws.map esc:=by simp[dW]
      rw[List.take_length,hme];obtain⟨H2,hH2⟩: ∃H2,H2=ew H1 H.length true (ws.map esc):=⟨_,rfl⟩
      rw[←hH2];have g2:H2[H.length]? =some (.cells ((ws.map esc).map .str) true):=by rw[hH2];exact iW l1 _
      have hI2:oW H2 c ver (L++eL th c (bh.take i)) xs th:=hI.fE fun j o hj=>by
        rw[hH2,ew,List.getElem?_set_ne (by have:=(List.getElem?_eq_some_iff.1 hj).1;omega),hH1];exact aZ hj
      have hem2: ∀p∈ws.map esc,p.length≤2000000:=by
        intro p hp;obtain⟨w,hw1,rfl⟩:=List.mem_map.1 hp;have:=ni w;have:=hwb w hw1;omega
      have hbq:=E9 (lnN n (kh c n));by_cases hN:n=nN
      · have hw2:ws.length=2:=by rw[hwl];exact hnn hN
        have hvn:kh c n=Lib.join (ws.map esc++[[],[],[]]) [59]:=by rw[kh,if_pos hN,hw]
        have hq:(n==[110])=true:=by rw[hN];rfl
        have hz:=KZ (a:=ws.map esc) g2 (by simpa using hw2);obtain⟨H3,hH3⟩: ∃H3,H3=H2.set H.length .dead++[OB.cells ((ws.map esc++[[],[],[]]).map .str) true]:=⟨_,rfl⟩
        rw[←hH3]at hz;have l2:H2.length=H1.length:=by rw[hH2];simp[ew]
        have g3:H3[H2.length]? =some (.cells ((ws.map esc++[[],[],[]]).map .str) true):=by rw[hH3,List.getElem?_append_right (by simp)];simp
        have hI3:oW H3 c ver (L++eL th c (bh.take i)) xs th:=hI.fE fun j o hj=>by
          have hjl:=(List.getElem?_eq_some_iff.1 hj).1;rw[hH3];refine aZ ?_;rw[List.getElem?_set_ne (by omega),hH2,ew,List.getElem?_set_ne (by omega),hH1];exact aZ hj
        obtain⟨N,hsh,hIN⟩:=hI3.add (lnN n (kh c n)) (by simp;omega)
        have hjn:=xG false (ws.map esc++[[],[],[]]) [59] (by simp;omega) (by
          have h1:=lr [59] (ws.map esc++[[],[],[]])
          have h2:=lq (l:=ws.map esc++[[],[],[]]) (b:=2000000) (by
            intro p hp;rcases List.mem_append.1 hp with h|h
            · exact hem2 p h
            · simp at h;rw[h];simp)
          simp only[List.length_append,List.length_map,hw2,List.length_cons,List.length_nil]at h1 h2;omega)
        have hps:(ws.map esc++[[],[],[]]).length=5:=by simp[hw2]
        have hjl:=qD (s:=[59]) (out:=.ret (.str (kh c n))) g3 rfl;rw[hps]at hjl;rw[←hvn]at hjn;have hbd:=bdQ n (kh c n);have p6:=ug hI3.fn;have hng:aE Tryz.prog 25 3 (.sl H.length 0 2 0) (.int .i64 3) H2=none:=by
          simp[aE,Tryz.underlying25,apX,cp,cO]
        generalize eF (lnN n (kh c n))=Qn at*;rw[hw2];refine .vc (by decide) ?_;have hd3:deN (AV.int .i64 (5 - ((2:Nat):Int)))=.int .i64 3:=rfl;have hz2:lI Tryz.prog 25 3 (.sl H.length 0 2 0) (.int .i64 (5 - ((2:Nat):Int))) H2=some (.sl H2.length 0 5 0,H3):=hz
        repeat'(first|(simp(disch:=first|omega|(simp only[zL];omega))only[go_sem,Nat.reduceEqDiff,↓reduceIte,Nat.reduceAdd,Nat.reduceMul,Nat.reduceSub,Nat.reduceLeDiff,Nat.reduceLT,Int.reduceToNat,Int.reduceLE,hq,hln,hng,hd3,hz2]))
        refine W.bw [6] [false,false,false,false,false,false,true] [] mixed (by kernel_rfl) (by kernel_rfl) (by kernel_rfl) ?_
        repeat'(first|(simp(disch:=first|omega|(simp only[zL];omega))only[go_sem,Nat.reduceEqDiff,↓reduceIte,Nat.reduceAdd,Nat.reduceMul,Nat.reduceSub,Nat.reduceLeDiff,Nat.reduceLT,Int.reduceToNat,Int.reduceLE,p6,hbd,hbq])|(guard_target=~ ar _ _ _ _ _ _ _;refine ar.aG _ hjn hjl ?_)|(guard_target=~ ar _ _ _ _ _ _ _;refine ar.sh hsh ?_))
        exact⟨i+1,⟨⟨rfl,rfl,rfl,rfl,rfl,rfl,rfl,rfl,rfl,trivial⟩,by rw[hnt,hnew,←List.append_assoc];exact hIN,rfl,h⟩,by omega⟩
      · have hvn:kh c n=Lib.join (ws.map esc) [59]:=by rw[kh,if_neg hN,hw,List.append_nil]
        have hq:(n==[110])=false:=by
          cases hq:(n==[110])with
          |false=>rfl
          |true=>exact(hN (by simpa[nN]using hq)).elim
        obtain⟨N,hsh,hIN⟩:=hI2.add (lnN n (kh c n)) (by simp;omega)
        have hjn:=xG false (ws.map esc) [59] (by simp;omega) (by
          have h1:=lr [59] (ws.map esc);have h2:=lq hem2
          simp only[List.length_map,List.length_cons,List.length_nil]at h1 h2;omega)
        have hjl:=qD (s:=[59]) (out:=.ret (.str (kh c n))) g2 rfl;rw[List.length_map]at hjl;rw[←hvn]at hjn;have hbd:=bdQ n (kh c n);have p6:=ug hI2.fn;generalize eF (lnN n (kh c n))=Qn at*;refine .vc (by decide) ?_
        repeat'(first|(simp(disch:=first|omega|(simp only[zL];omega))only[go_sem,Nat.reduceEqDiff,↓reduceIte,Nat.reduceAdd,Nat.reduceMul,Nat.reduceSub,Nat.reduceLeDiff,Nat.reduceLT,Int.reduceToNat,Int.reduceLE,hq]))
        refine W.bw [6] [false,false,false,false,false,false,true] [] mixed (by kernel_rfl) (by kernel_rfl) (by kernel_rfl) ?_
        repeat'(first|(simp(disch:=first|omega|(simp only[zL];omega))only[go_sem,Nat.reduceEqDiff,↓reduceIte,Nat.reduceAdd,Nat.reduceMul,Nat.reduceSub,Nat.reduceLeDiff,Nat.reduceLT,Int.reduceToNat,Int.reduceLE,p6,hbd,hbq])|(guard_target=~ ar _ _ _ _ _ _ _;refine ar.aG _ hjn hjl ?_)|(guard_target=~ ar _ _ _ _ _ _ _;refine ar.sh hsh ?_))
        exact⟨i+1,⟨⟨rfl,rfl,rfl,rfl,rfl,rfl,rfl,rfl,rfl,trivial⟩,by rw[hnt,hnew,←List.append_assoc];exact hIN,rfl,h⟩,by omega⟩
  · have e:i=5:=by omega
    subst e;refine .vc (by decide) ?_
    repeat'(first|(simp(disch:=first|omega|(simp only[zL];omega))only[go_sem,Nat.reduceEqDiff,↓reduceIte,Nat.reduceAdd,Nat.reduceMul,Nat.reduceSub,Nat.reduceLeDiff,Nat.reduceLT,Int.reduceToNat,Int.reduceLE]))
    exact hQ _ ⟨⟨rfl,rfl,rfl,rfl,rfl,rfl,rfl,rfl,rfl,trivial⟩,hI,rfl,hi⟩
end Go.Proofs.YtekcidbpejicdaaGreatDoor
