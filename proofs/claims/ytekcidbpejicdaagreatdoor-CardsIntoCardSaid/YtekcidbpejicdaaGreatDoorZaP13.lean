/- Contracts of functions that the statements of this seat reach: under the conditions named at each theorem. -/
import Derived.Test.YtekcidbpejicdaaGreatDoorZaP8
import Derived.Test.YtekcidbpejicdaaGreatDoorZaP12
import Derived.Test.YtekcidbpejicdaaGreatDoorZaP7
namespace Go.Proofs.YtekcidbpejicdaaGreatDoor
set_option linter.unusedVariables false
set_option linter.unusedSimpArgs false
open Go Go.Av Go.RowKit
def bz(ws ps:List Bytes):List Bytes:=ws.map esc++ps.drop ws.length
theorem wQ(ws ps:List Bytes)(i:Nat):(bz ws ps)[i]? =if i<ws.length then ws[i]?.map esc else ps[i]?:=by
 unfold bz;by_cases h:i<ws.length
 ·rw[if_pos h,List.getElem?_append_left (by simpa using h),List.getElem?_map]
 ·rw[if_neg h,List.getElem?_append_right (by simpa using h),List.getElem?_drop,List.length_map]
  congr 1;omega
theorem mv(ws ps:List Bytes):(bz ws ps).length=max ws.length ps.length:=by simp[bz];omega
theorem dy(u v:Bytes)(t:List Bytes)(s:Bytes):Lib.join (u::v::t) s=u++(s++Lib.join (v::t) s):=by simp[Lib.join,List.intercalate]
theorem uN(c s:Bytes):∀l:List Bytes,Lib.join (l++[c]) s=if l=[]then c else Lib.join l s++s++c
 | []=>by simp[Lib.join,List.intercalate]
 | [u]=>by simp[Lib.join,List.intercalate]
 |u::v::t=>by
  have:=uN c s (v::t);rw[if_neg (by simp)]at this ⊢;rw[show u::v::t++[c]=u::v::(t++[c])from rfl,dy,dy];rw[show v::(t++[c])=v::t++[c]from rfl,this];simp
theorem uO(s:Bytes):∀a b:List Bytes,(Lib.join a s).length≤(Lib.join (a++b) s).length
 | [],b=>by simp[Lib.join,List.intercalate]
 | [u],[]=>by simp
 | [u],v::b=>by rw[show [u]++v::b=u::v::b from rfl,dy];simp[Lib.join,List.intercalate]
 |u::v::t,b=>by
  have:=uO s (v::t) b;rw[show u::v::t++b=u::v::(t++b)from rfl,dy,dy];rw[show v::t++b=v::(t++b)from rfl]at this;simp;omega
theorem eR(m:UInt8):∀(s:Bytes) (b:Bool) (cur:Bytes),aQ m b cur s≠ []
 | [],b,cur=>by rw[eQ];simp
 |x::t,true,cur=>by rw[aQ];exact eR m t _ _
 | x::t,false,cur=>by
  rw[aQ];split
  ·exact eR m t _ _
  ·split
   ·simp
   ·exact eR m t _ _
set_option maxRecDepth 8000 in
theorem yl (x:Bool) (ws:List Bytes) (v:Bytes) (hv:v.length≤1000000) (hw:ws.length≤8) (hwl: ∀w∈ws,w.length≤1000000) (hjl:(Lib.join (bz ws (aY 59 v)) [59]).length≤50000000):
    aa Tryz.prog 118 [.str v,.vsl 0 x (ws.map .str)] (.ret (.tup [.str (Lib.join (bz ws (aY 59 v)) [59]),.bool ((bz ws (aY 59 v)).any fun p=> !(p==[]))])):=by
  have hpt:=BN v false hv;rw[show mk false=59 from rfl]at hpt;have hpc:(aY 59 v).length≤1000001:=by have:=dX 59 false [] v;unfold aY;omega
  obtain⟨ps,hps⟩: ∃ps,ps=aY 59 v:=⟨_,rfl⟩
  have hpne:ps≠ []:=by rw[hps];exact eR _ _ _ _
  rw[←hps]at hpt hpc hjl ⊢;have hml:=mv ws ps;have hb1:=kU;have hlw: ∀H,aI Tryz.prog 25 (.vsl 0 x (ws.map .str)) H=some (.int .i64 ws.length):=by intro H;simp[aI,Tryz.underlying25]
  have hlp: ∀H,aI Tryz.prog 25 (.vsl 0 false (ps.map .str)) H=some (.int .i64 ps.length):=by intro H;simp[aI,Tryz.underlying25]
  refine aa.of Tryz.func118 rfl (ab enters Tryz.func118 rfl) (by simp[Tryz.ntmps118]) ?_;show W Tryz.prog 71 0 none _ _ _;refine W.vc (by decide) ?_
  repeat'(first|(simp(disch:=first|omega|(simp only[zL];omega))only[go_sem,Nat.reduceEqDiff,↓reduceIte,Nat.reduceAdd,Nat.reduceMul,Nat.reduceSub,Nat.reduceLeDiff,Nat.reduceLT,Int.reduceToNat,Int.reduceLE])|((with_reducible first|apply aj.pure|apply an.pure);(with_reducible exact hpt);(first|rfl|simp only[go_sem])))
  refine W.bh (X:=Nat×Nat×Bool×List Bytes) (fun y=>[(8,.int .i64 (y.1:Int)),(1,.vsl 0 x (ws.map .str)),(6,.vsl 0 false (ps.map .str)),(7,bJ 0 0 0 AV.str y.2.1 y.2.2.1 y.2.2.2)]) (fun y=>mem [] AV.str y.2.1 0 y.2.2.1 y.2.2.2)
    (fun y=>y.1≤(bz ws ps).length∧y.2.2.2=(bz ws ps).take y.1∧(y.2.2.1=false→y.2.2.2=[])) (fun y=>(bz ws ps).length - y.1) (0,0,false,[]) ⟨Nat.zero_le _,by simp,fun _=>rfl⟩ ⟨rfl,rfl,rfl,rfl,trivial⟩ rfl ?_
  rintro⟨i,kk,z,out⟩ ⟨l1,l2,l3⟩;simp only at l1 l2 l3 ⊢;have hol:out.length=i:=by rw[l2];simp;omega
  have hde:deN (bJ 0 0 0 AV.str kk z out)=bJ 0 0 0 AV.str kk z out:=eX _ _ _ _ _ _ _;have hat:=wQ ws ps i;refine .vc (by decide) ?_;by_cases h:i<(bz ws ps).length
  · obtain⟨c,hc,hcd⟩:=drop_at h
    have hnx:(bz ws ps).take (i+1)=out++[c]:=by rw[List.take_add_one,hc,←l2];rfl
    have hap:=fun s=>pH v hv (show out.length≤1000001 by omega) z kk l3 s;by_cases h1:i<ws.length
    · rw[if_pos h1,hc]at hat
      obtain⟨w,hw1,hwd⟩:=drop_at h1;rw[hw1]at hat;have hcw:c=esc w:=by simpa using hat
      have hia: ∀H,ah Tryz.prog 25 (.vsl 0 x (ws.map .str)) (.int .i64 (i:Int)) H=some (.vptr [.str w]):=fun H=>dW (v:=.str w) (by simp[hw1]) rfl H
      repeat'(first|(simp(disch:=first|omega|(simp only[zL];omega))only[go_sem,Nat.reduceEqDiff,↓reduceIte,Nat.reduceAdd,Nat.reduceMul,Nat.reduceSub,Nat.reduceLeDiff,Nat.reduceLT,Int.reduceToNat,Int.reduceLE,hlw,hlp,hia,hb1,hap,hde])|((with_reducible first|apply aj.pure|apply an.pure);(with_reducible exact zw w (hwl w (List.mem_of_getElem? hw1)));(first|rfl|simp only[go_sem])))
      exact⟨(i+1,(if z then kk+1 else kk),true,out++[esc w]),⟨h,by simp only;rw[hnx,hcw],fun h=>by cases h⟩,by simp only;omega,⟨rfl,rfl,rfl,rfl,trivial⟩,rfl⟩
    · rw[if_neg h1,hc]at hat
      have h2:i<ps.length:=by omega
      have hia: ∀H,ah Tryz.prog 25 (.vsl 0 false (ps.map .str)) (.int .i64 (i:Int)) H=some (.vptr [.str c]):=fun H=>dW (v:=.str c) (by simp[←hat]) rfl H
      repeat'(first|(simp(disch:=first|omega|(simp only[zL];omega))only[go_sem,Nat.reduceEqDiff,↓reduceIte,Nat.reduceAdd,Nat.reduceMul,Nat.reduceSub,Nat.reduceLeDiff,Nat.reduceLT,Int.reduceToNat,Int.reduceLE,hlw,hlp,hia,hb1,hap,hde]))
      exact⟨(i+1,(if z then kk+1 else kk),true,out++[c]),⟨h,by simp only;rw[hnx],fun h=>by cases h⟩,by simp only;omega,⟨rfl,rfl,rfl,rfl,trivial⟩,rfl⟩
  · have h1: ¬i<ws.length:=by omega
    have h2: ¬i<ps.length:=by omega
    have e:i=(bz ws ps).length:=by omega
    have l2':out=bz ws ps:=by rw[l2,e,List.take_length]
    have hz:z=true:=by
      cases z with
      |true=>rfl
      | false=>
        have h0:=l3 rfl;rw[l2']at h0;have:(bz ws ps).length=0:=by rw[h0];rfl
        have:ps.length=0:=by omega
        exact(hpne (List.length_eq_zero_iff.1 this)).elim
    subst hz;obtain⟨xs,hxs⟩: ∃xs,xs=bz ws ps:=⟨_,rfl⟩
    rw[←hxs]at hjl l2' ⊢;subst l2';have hV:bJ 0 0 0 AV.str kk true out=.sl kk 0 out.length 0:=by simp[bJ]
    have hM:(mem [] AV.str kk 0 true out)[kk]? =some (.cells (out.map .str) true):=by
      have:=gU (B:=[]) (f:=AV.str) (k:=kk) (j:=0) (L:=out);rw[fY]at this;simpa using this
    rw[hV]at hde;simp only[hV];obtain⟨M,hMe⟩: ∃M,M=mem [] AV.str kk 0 true out:=⟨_,rfl⟩
    rw[←hMe]at hM ⊢;have hls:aI Tryz.prog 25 (.sl kk 0 out.length 0) M=some (.int .i64 out.length):=by simp[aI,Tryz.underlying25]
    repeat'(first|(simp(disch:=first|omega|(simp only[zL];omega))only[go_sem,Nat.reduceEqDiff,↓reduceIte,Nat.reduceAdd,Nat.reduceMul,Nat.reduceSub,Nat.reduceLeDiff,Nat.reduceLT,Int.reduceToNat,Int.reduceLE,hlw,hlp]))
    refine W.bh (X:=Nat) (fun j=>[(11,.int .i64 (j:Int)),(7,.sl kk 0 out.length 0),(9,.str (Lib.join (out.take j) [59])),(10,.bool ((out.take j).any fun p=> !(p==[])))]) (fun _=>M) (fun j=>j≤out.length) (fun j=>out.length - j) 0 (Nat.zero_le _) ⟨rfl,rfl,rfl,rfl,trivial⟩ rfl ?_;intro j hj;refine .vc (by decide) ?_;by_cases h:j<out.length
    · obtain⟨c,hc,hd⟩:=drop_at h
      have hia:ah Tryz.prog 25 (.sl kk 0 out.length 0) (.int .i64 (j:Int)) M=some (.ptr kk j):=by simp[ah,bL,Tryz.underlying25,tz9,h,esz]
      have hld:al Tryz.prog 9 (.ptr kk j) M=some (.str c):=by simp[ld9,ldC,hM,hc]
      have hnx:out.take (j+1)=out.take j++[c]:=by rw[List.take_add_one,hc];rfl
      have hpre:=uO [59] (out.take (j+1)) (out.drop (j+1));rw[List.take_append_drop]at hpre;have hja:=uN c [59] (out.take j);rw[←hnx]at hja;have hany:((out.take (j+1)).any fun p=> !(p==[]))=(((out.take j).any fun p=> !(p==[]))|| !(c==[])):=by rw[hnx,List.any_append];simp
      obtain⟨b,hb⟩: ∃b,b=(out.take j).any fun p=> !(p==[]):=⟨_,rfl⟩
      rw[←hb]at hany ⊢;by_cases h0:j=0
      · have hj0:Lib.join (out.take j) [59]=[]:=by rw[h0];simp[Lib.join,List.intercalate]
        rw[if_pos (by rw[h0];rfl)]at hja;rw[hj0];have hcl:c.length≤50000000:=by rw[hja]at hpre;omega
        have hsa:aW Tryz.prog .add 9 (.str []) (.str c)=some (.str c):=by rw[FA [] c (by simp;omega)];rfl
        subst h0;cases b<;>cases hcb:(c==[])<;>rw[hcb]at hany
        all_goals
          repeat'(first|(simp(disch:=first|omega|(simp only[zL];omega))only[go_sem,Nat.reduceEqDiff,↓reduceIte,Nat.reduceAdd,Nat.reduceMul,Nat.reduceSub,Nat.reduceLeDiff,Nat.reduceLT,Int.reduceToNat,Int.reduceLE,hls,hia,hld,hcb,hsa]))
          exact⟨0+1,h,by omega,rfl,rfl,by rw[hja];rfl,by rw[hany];rfl,trivial⟩
      · rw[if_neg (by intro e;have h3:(out.take j).length=j:=by{rw[List.length_take];omega};rw[e]at h3;exact h0 h3.symm)]at hja
        have hjl2:(Lib.join (out.take j) [59]).length+1+c.length≤50000000:=by
          rw[hja]at hpre;simp at hpre;omega
        obtain⟨Jt,hJt⟩: ∃Jt,Jt=Lib.join (out.take j) [59]:=⟨_,rfl⟩
        rw[←hJt]at hja hjl2 ⊢;have hjp:(decide ((j:Int)>0))=true:=by simp;omega
        cases b<;>cases hcb:(c==[])<;>rw[hcb]at hany
        all_goals
          repeat'(first|(simp(disch:=first|omega|(simp only[zL];omega))only[go_sem,Nat.reduceEqDiff,↓reduceIte,Nat.reduceAdd,Nat.reduceMul,Nat.reduceSub,Nat.reduceLeDiff,Nat.reduceLT,Int.reduceToNat,Int.reduceLE,hls,hia,hld,hcb]))
          exact⟨j+1,h,by omega,rfl,rfl,by rw[hja];rfl,by rw[hany];rfl,trivial⟩
    · have e:j=out.length:=by omega
      subst e;rw[List.take_length]
      repeat'(first|(simp(disch:=first|omega|(simp only[zL];omega))only[go_sem,Nat.reduceEqDiff,↓reduceIte,Nat.reduceAdd,Nat.reduceMul,Nat.reduceSub,Nat.reduceLeDiff,Nat.reduceLT,Int.reduceToNat,Int.reduceLE,hls]))
      exact⟨_,rfl,_,rfl,.refl _⟩
def eh(H:List OB)(d:Nat)(opn:Bool)(c:List Bytes):List OB:=H.set d (.cells (c.map .str) opn)
section
variable{H:List OB} {d:Nat} {opn:Bool}
theorem jH(hd:d<H.length)(c:List Bytes):(eh H d opn c)[d]? =some (.cells (c.map .str) opn):=List.getElem?_set_self hd
theorem jI{l:List Bytes}(h:H[d]? =some (.cells (l.map .str) opn)):eh H d opn l=H:=lS h
theorem ym(c c':List Bytes):(eh H d opn c).set d (.cells (c'.map .str) opn)=eh H d opn c':=List.set_set _
theorem gY(off n i:Nat)(h:i<n)(M:List OB):ah Tryz.prog 25 (.sl d off n 0) (.int .i64 (i:Int)) M=some (.ptr d (off+i)):=by
 simp[ah,bL,Tryz.underlying25,tz9,h,esz]
theorem mY(hd:d<H.length){c:List Bytes}{i:Nat}{s:Bytes}(h:c[i]? =some s):al Tryz.prog 9 (.ptr d i) (eh H d opn c)=some (.str s):=by
 simp[ld9,ldC,jH hd,h]
theorem pN(hd:d<H.length){c:List Bytes}{i:Nat}(h:i<c.length)(s:Bytes):aE Tryz.prog 9 (.ptr d i) (.str s) (eh H d opn c)=some (eh H d opn (c.set i s)):=by
 rw[st9];simp only[stC,jH hd];rw[if_pos (by simp[AV.cells,AV.isC];omega)];simp only[AV.cells,cm,←List.map_set,ym]
theorem pO(off n k:Nat)(h:k<n):bo Tryz.prog 25 (.sl d off n 0) (some (.int .i64 (k:Int))) none none=some (.sl d (off+k) (n - k) 0):=by
 simp only[bo,Tryz.underlying25,tz9,cX .i64 k (Nat.le_of_lt h),esz,↓reduceIte];rw[if_pos (by omega),Nat.mul_one]
theorem B1(off n k:Nat)(h:k≤n):bo Tryz.prog 25 (.sl d off n 0) none (some (.int .i64 (k:Int))) none=some (.sl d off k 0):=by
 simp only[bo,Tryz.underlying25,tz9,nY .i64 k h,esz,↓reduceIte];simp
theorem FJ:bZ Tryz.prog 9=some (.str []):=by kernel_rfl
theorem yn(hd:d<H.length){c:List Bytes}{k n:Nat}(h:k+n=c.length)(hn:0<n):lz Tryz.prog 25 (.sl d k n 0) (eh H d opn c)=some (.tup [],eh H d opn (c.take k++List.replicate n [])):=by
 simp only[lz,Tryz.underlying25,ik,FJ,jH hd];rw[if_neg (by omega),if_pos ⟨rfl,rfl,by simp[esz];omega⟩];rw[show AV.cells (.str [])=[.str []]from rfl,D0,lV _ _ _ (by simp;omega)];rw[←ym c (c.take k++List.replicate n [])];simp
end
theorem mZ(a b:Bytes):∀l:List Bytes,comp (l++[a]++[b])=if a=b then comp (l++[a])else comp (l++[a])++[b]
 | []=>by
  simp only[List.nil_append,List.cons_append,comp];split
  ·rename_i h;rw[h]
  ·rfl
 | [x]=>by
  have ih:=mZ a b [];simp only[List.nil_append,List.cons_append]at ih ⊢;rw[comp,ih];simp only[comp];by_cases h1:x=a<;>by_cases h2:a=b<;>simp[h1,h2]
 |x::y::t=>by
  have ih:=mZ a b (y::t);simp only[List.cons_append]at ih ⊢;rw[comp,ih,comp];by_cases h1:x=y<;>by_cases h2:a=b<;>simp[h1,h2]
theorem rk{l:List Bytes}{j:Nat}{a b:Bytes}(ha:l[j]? =some a)(hb:l[j+1]? =some b):comp (l.take (j+2))=if a=b then comp (l.take (j+1))else comp (l.take (j+1))++[b]:=by
 have e1:l.take (j+1)=l.take j++[a]:=by rw[List.take_add_one,ha];rfl
 have e2:l.take (j+2)=l.take j++[a]++[b]:=by rw[List.take_add_one,hb,e1];rfl
 rw[e2,e1,mZ]
theorem pQ{l:List Bytes}(h:l.length<2):comp l=l:=by
 match l,h with
 | [],_=>rfl
 | [_],_=>rfl
set_option maxRecDepth 8000 in
theorem JC {H:List OB} {d:Nat} {l:List Bytes} {opn:Bool} (hd:H[d]? =some (.cells (l.map .str) opn)) (hl:l.length≤1000000):
    bF Tryz.prog 32 [.sl d 0 l.length 0] H (.ret (.sl d 0 (comp l).length 0)) (eh H d opn (comp l++List.replicate (l.length - (comp l).length) [])):=by
  refine bt.one ?_;have hdl:=(List.getElem?_eq_some_iff.1 hd).1;have hself:=jI hd;refine bt.ofX Tryz.func32 rfl (ab enters Tryz.func32 rfl) (by simp[Tryz.ntmps32]) ?_;show W Tryz.prog 61 _ none _ _ ⟨bn 0 [.sl d 0 l.length 0],H,[]⟩;have hln: ∀o n M,aI Tryz.prog 25 (.sl d o n 0) M=some (.int .i64 n):=by intro o n M;simp[aI,Tryz.underlying25]
  have hout:comp l=l→eh H d opn (comp l++List.replicate (l.length - (comp l).length) [])=H:=by
    intro e;rw[e,Nat.sub_self];simp[hself]
  by_cases h2:l.length<2
  · have e:=pQ h2
    rw[hout e,e];refine .vc (by decide) ?_
    repeat'(first|(simp(disch:=first|omega|(simp only[zL];omega))only[go_sem,seval,hln]))
    exact⟨_,_,⟨rfl,rfl⟩,_,rfl,rfl,_,rfl,rfl⟩
  refine .vc (by decide) ?_
  repeat'(first|(simp(disch:=first|omega|(simp only[zL];omega))only[go_sem,seval,hln]))
  refine W.bh (X:=Nat) (fun i=>[(3,.int .i64 ((i+1:Nat):Int)),(0,.sl d 0 l.length 0)]) (fun _=>H) (fun i=>i+1≤l.length∧comp (l.take (i+1))=l.take (i+1)) (fun i=>l.length - i) 0 ⟨by omega,pQ (by simp;omega)⟩ ⟨rfl,rfl,trivial⟩ rfl ?_;rintro i ⟨hi,hc⟩;by_cases h:i+1<l.length
  · obtain ⟨u,hu,_⟩:=drop_at (show i<l.length by omega)
    obtain⟨v,hv,_⟩:=drop_at h;have hia: ∀M,ah Tryz.prog 25 (.sl d 0 l.length 0) (.int .i64 (((i+1:Nat):Int) - 1)) M=some (.ptr d i):=by
      intro M;have:(((i+1:Nat):Int) - 1)=((i:Nat):Int):=by omega
      rw[this,gY 0 _ i (by omega),Nat.zero_add]
    have hib: ∀M,ah Tryz.prog 25 (.sl d 0 l.length 0) (.int .i64 ((i+1:Nat):Int)) M=some (.ptr d (i+1)):=by
      intro M;rw[gY 0 _ (i+1) h,Nat.zero_add]
    have g1:al Tryz.prog 9 (.ptr d i) H=some (.str u):=by have:=mY (opn:=opn) hdl hu;rwa[hself]at this
    have g2:al Tryz.prog 9 (.ptr d (i+1)) H=some (.str v):=by have:=mY (opn:=opn) hdl hv;rwa[hself]at this
    have hct:=rk hu hv;cases hq:(v==u)with
    | false=>
      have hne: ¬u=v:=by intro e;simp[e]at hq
      rw[if_neg hne,hc]at hct;refine .vc (by decide) ?_
      repeat'(first|(simp(disch:=first|omega|(simp only[zL];omega))only[go_sem,seval,hln]))
      refine W.aO [] [false,false,false,false,false,false,false,false,false,false] [] mixed (by kernel_rfl) (by kernel_rfl) (by kernel_rfl) ?_
      repeat'(first|(simp(disch:=first|omega|(simp only[zL];omega))only[go_sem,seval,hia,hib,g1,g2,hq]))
      exact⟨i+1,⟨h,by rw[hct,List.take_add_one (i:=i+1),hv];rfl⟩,by omega,⟨rfl,rfl,trivial⟩⟩
    | true =>
      have hve:u=v:=by have:=of_decide_eq_true (by simpa using hq:decide (v=u)=true);exact this.symm
      rw[if_pos hve,hc]at hct;have hfr:=pO (d:=d) 0 l.length (i+1) h;rw[Nat.zero_add]at hfr;refine .vc (by decide) ?_
      repeat'(first|(simp(disch:=first|omega|(simp only[zL];omega))only[go_sem,seval,hln]))
      refine W.aO [] [false,false,false,false,false,false,false,false,false,false] [] mixed (by kernel_rfl) (by kernel_rfl) (by kernel_rfl) ?_
      repeat'(first|(simp(disch:=first|omega|(simp only[zL];omega))only[go_sem,seval,hia,hib,g1,g2,hq,hfr]))
      obtain⟨p,hp⟩: ∃p,p=i+1:=⟨_,rfl⟩
      rw[←hp]at h hc hct ⊢;rw[show i+2=p+1 by omega]at hct
      refine W.bh (X:=Nat×Nat×List Bytes) (fun y=>[(5,.int .i64 ((y.1+1:Nat):Int)),(3,.int .i64 (y.2.1:Int)),(4,.sl d p (l.length - p) 0),(0,.sl d 0 l.length 0)]) (fun y=>eh H d opn y.2.2)
        (fun y=>y.2.2.length=l.length∧p+y.1+1≤l.length∧y.2.1≤p+y.1∧y.2.2.take y.2.1=comp (l.take (p+y.1+1))∧y.2.2.drop (p+y.1)=l.drop (p+y.1)) (fun y=>l.length - y.1) (0,p,l) ⟨rfl,h,Nat.le_refl _,hct.symm,rfl⟩ ⟨rfl,rfl,rfl,rfl,trivial⟩ hself.symm ?_
      rintro⟨j,k,c⟩ ⟨k1,k2,k3,k4,k5⟩;simp only at k1 k2 k3 k4 k5 ⊢;by_cases h3:p+j+1<l.length
      · obtain⟨a,ha,ha2⟩:=drop_at (show p+j<l.length by omega)
        obtain⟨b,hb,hb2⟩:=drop_at h3;have ca:c[p+j]? =some a:=by have:=congrArg (·[0]?) k5;simpa[List.getElem?_drop,ha]using this
        have cb:c[p+j+1]? =some b:=by have:=congrArg (·[1]?) k5;simpa[List.getElem?_drop,hb]using this
        have hja: ∀M,ah Tryz.prog 25 (.sl d p (l.length - p) 0) (.int .i64 (((j+1:Nat):Int) - 1)) M=some (.ptr d (p+j)):=by
          intro M;have:(((j+1:Nat):Int) - 1)=((j:Nat):Int):=by omega
          rw[this,gY p _ j (by omega)]
        have hjb: ∀M,ah Tryz.prog 25 (.sl d p (l.length - p) 0) (.int .i64 ((j+1:Nat):Int)) M=some (.ptr d (p+j+1)):=by
          intro M;rw[gY p _ (j+1) (by omega)];rfl
        have hk0: ∀M,ah Tryz.prog 25 (.sl d 0 l.length 0) (.int .i64 (k:Int)) M=some (.ptr d k):=by
          intro M;rw[gY 0 _ k (by omega),Nat.zero_add]
        have g3:=mY (opn:=opn) hdl ca;have g4:=mY (opn:=opn) hdl cb;have g5:=pN (opn:=opn) hdl (c:=c) (i:=k) (by omega) b;have hct2:=rk ha hb;cases hq2:(b==a)with
        | true=>
          have hab:a=b:=by have:=of_decide_eq_true (by simpa using hq2:decide (b=a)=true);exact this.symm
          rw[if_pos hab]at hct2;refine .vc (by decide) ?_
          repeat'(first|(simp(disch:=first|omega|(simp only[zL];omega))only[go_sem,seval,hln]))
          refine W.aO [] [false,false,false,false,false,false,false,false,false,false] [] mixed (by kernel_rfl) (by kernel_rfl) (by kernel_rfl) ?_
          repeat'(first|(simp(disch:=first|omega|(simp only[zL];omega))only[go_sem,seval,hja,hjb,g3,g4,hq2]))
          exact⟨(j+1,k,c),⟨k1,by simp only;omega,by simp only;omega,by simp only;rw[k4,show p+(j+1)+1=p+j+2 by omega,hct2],by simp only;rw[show p+(j+1)=p+j+1 by omega,←List.drop_drop,k5,List.drop_drop]⟩,by simp only;omega,⟨rfl,rfl,rfl,rfl,trivial⟩,rfl⟩
        | false=>
          have hab: ¬a=b:=by intro e;simp[e]at hq2
          rw[if_neg hab]at hct2;refine .vc (by decide) ?_
          repeat'(first|(simp(disch:=first|omega|(simp only[zL];omega))only[go_sem,seval,hln]))
          refine W.aO [] [false,false,false,false,false,false,false,false,false,false] [] mixed (by kernel_rfl) (by kernel_rfl) (by kernel_rfl) ?_
          repeat'(first|(simp(disch:=first|omega|(simp only[zL];omega))only[go_sem,seval,hja,hjb,g3,g4,hq2,hk0,g5]))
          refine⟨(j+1,k+1,c.set k b),⟨by simpa using k1,by simp only;omega,by simp only;omega,?_,?_⟩,by simp only;omega,⟨rfl,rfl,rfl,rfl,trivial⟩,rfl⟩
          · simp only
            rw[show p+(j+1)+1=p+j+2 by omega,hct2,←k4,List.take_add_one,List.getElem?_set_self (by omega),List.take_set_of_le (Nat.le_refl _)];rfl
          · simp only
            rw[show p+(j+1)=p+j+1 by omega,List.drop_set_of_lt (by omega),←List.drop_drop,k5,List.drop_drop]
      · have e:p+j+1=l.length:=by omega
        have hcl:c.take k=comp l:=by rw[k4,e,List.take_length]
        have hkl:(comp l).length=k:=by rw[←hcl];simp;omega
        have s1:=pO (d:=d) 0 l.length k (by omega);rw[Nat.zero_add]at s1;have s2:=B1 (d:=d) 0 l.length k (by omega);have s3:=yn (opn:=opn) hdl (c:=c) (k:=k) (n:=l.length - k) (by omega) (by omega);rw[hkl,←hcl];refine .vc (by decide) ?_
        repeat'(first|(simp(disch:=first|omega|(simp only[zL];omega))only[go_sem,seval,hln,s1,s2,s3]))
        exact⟨_,_,⟨rfl,rfl⟩,_,rfl,rfl,_,rfl,rfl⟩
  · have e:i+1=l.length:=by omega
    rw[e,List.take_length]at hc;rw[hout hc,hc];refine .vc (by decide) ?_
    repeat'(first|(simp(disch:=first|omega|(simp only[zL];omega))only[go_sem,seval,hln]))
    exact⟨_,_,⟨rfl,rfl⟩,_,rfl,rfl,_,rfl,rfl⟩
theorem uP:tV Tryz.prog Tryz.f32 (gl Tryz.prog (cZ Tryz.prog qB 40) qB.pm Tryz.f32.ntmps false qB.fuel (Tryz.f32.body.getD .skip) ⟨bn 0 [.vsl 0 true []],[],[]⟩)=some (.ret (.vsl 0 true [])):=by kernel_rfl
theorem EE:aa Tryz.prog 32 [.vsl 0 true []] (.ret (.vsl 0 true [])):=aa.run sO 40 Tryz.func32 rfl (by simp[Tryz.ntmps32]) uP
def jk(H:List OB)(v:AV)(l:List Bytes):Prop:=(l=[]∧(v=.nilsl∨v=.vsl 0 true []))∨∃d,v=.sl d 0 l.length 0∧H[d]? =some (.cells (l.map .str) true)
structure bE (H:List OB) (b:Nat) (vs:List AV) (xs:Nat→List Bytes):Prop where
 blk:H[b]? =some (.cells vs false)
 len:vs.length=8
 own:∀(f:Nat) (v:AV),vs[f]? =some v→jk H v (xs f)
 apart:∀(f g d n m:Nat),f≠g→vs[f]? =some (AV.sl d 0 n 0)→vs[g]? ≠some (AV.sl d 0 m 0)
def kZ(vs:List AV)(i:Nat):Prop:=∀(f n:Nat),vs[f]? ≠some (AV.sl i 0 n 0)
def kB(xs:Nat→List Bytes)(f:Nat)(l:List Bytes):Nat→List Bytes:=fun g=>if g=f then l else xs g
theorem zB(xs:Nat→List Bytes)(f:Nat)(l:List Bytes):kB xs f l f=l:=if_pos rfl
theorem EF(xs:Nat→List Bytes){f g:Nat}(l:List Bytes)(h:g≠f):kB xs f l g=xs g:=if_neg h
theorem bE.free{H:List OB}{b:Nat}{vs:List AV}{xs:Nat→List Bytes}(h:bE H b vs xs){i:Nat}{o:OB}(hi:H[i]? =some o)(ho:∀cs,o≠ .cells cs true):kZ vs i:=by
 intro f n hf;rcases h.own f _ hf with⟨_,h1|h1⟩|⟨d,h1,h2⟩
 ·cases h1
 ·cases h1
 ·cases h1
  rw[hi]at h2;exact ho _ (Option.some.inj h2)
theorem bE.fresh{H:List OB}{b:Nat}{vs:List AV}{xs:Nat→List Bytes}(h:bE H b vs xs){i:Nat}(hi:H.length≤i):kZ vs i:=by
 intro f n hf;rcases h.own f _ hf with⟨_,h1|h1⟩|⟨d,h1,h2⟩
 ·cases h1
 ·cases h1
 ·cases h1
  have:=(List.getElem?_eq_some_iff.1 h2).1;omega
theorem jk.fm{H K:List OB}{v:AV}{l:List Bytes}(h:jk H v l)(hk:∀d n,v=.sl d 0 n 0→K[d]? =H[d]?):jk K v l:=by
 rcases h with h|⟨d,h1,h2⟩
 ·exact .inl h
 ·exact .inr ⟨d,h1,by rw[hk d _ h1];exact h2⟩
theorem bE.fm{H K:List OB}{b:Nat}{vs:List AV}{xs:Nat→List Bytes}(h:bE H b vs xs)(hb:K[b]? =H[b]?)(hk:∀d,¬kZ vs d→K[d]? =H[d]?):bE K b vs xs:=
 ⟨by rw[hb];exact h.blk,h.len,fun f v hv=>(h.own f v hv).fm fun d n e=>hk d fun hf=>hf f n (by rw[hv,e]),h.apart⟩
theorem bE.set{H:List OB}{b:Nat}{vs:List AV}{xs:Nat→List Bytes}(h:bE H b vs xs){i:Nat}(o:OB)(hi:i≠b)(hf:kZ vs i):bE (H.set i o) b vs xs:=
 h.fm (by rw[List.getElem?_set_ne hi]) fun d hd=>by rw[List.getElem?_set_ne (by rintro rfl;exact hd hf)]
theorem bE.more{H:List OB}{b:Nat}{vs:List AV}{xs:Nat→List Bytes}(h:bE H b vs xs)(E:List OB):bE (H++E) b vs xs:=
 h.fm (by rw[List.getElem?_append_left (List.getElem?_eq_some_iff.1 h.blk).1]) fun d hd=>by
  by_cases hl:d<H.length
  ·rw[List.getElem?_append_left hl]
  ·exact(hd (h.fresh (by omega))).elim
theorem bE.slot{H:List OB}{b:Nat}{vs:List AV}{xs:Nat→List Bytes}(h:bE H b vs xs){f:Nat}(hf:f<8):∃v,vs[f]? =some v∧al Tryz.prog 25 (.ptr b f) H=some v∧jk H v (xs f):=by
 obtain⟨v,hv⟩:∃v,vs[f]? =some v:=⟨_,List.getElem?_eq_getElem (by rw[h.len];exact hf)⟩
 exact⟨v,hv,by simp[vX,ldC,h.blk,hv],h.own f v hv⟩
theorem bE.put {H:List OB} {b:Nat} {vs:List AV} {xs:Nat→List Bytes} {f:Nat} {v:AV} {l:List Bytes} (hb:H[b]? =some (.cells vs false)) (hl:vs.length=8) (hf:f<8) (ho: ∀(g:Nat) (v:AV),g≠f→vs[g]? =some v→jk H v (xs g)) (ha: ∀(f' g d n m:Nat),f'≠f→g≠f→f'≠g→vs[f']? =some (AV.sl d 0 n 0)→vs[g]? ≠some (AV.sl d 0 m 0))
    (hv:jk H v l) (hn: ∀(g d n m:Nat),g≠f→v=.sl d 0 n 0→vs[g]? ≠some (AV.sl d 0 m 0)) (hbo: ∀n:Nat,v≠AV.sl b 0 n 0) (hbg: ∀(g n:Nat),g≠f→vs[g]? ≠some (AV.sl b 0 n 0)):
    aE Tryz.prog 25 (.ptr b f) v H=some (H.set b (.cells (vs.set f v) false))∧bE (H.set b (.cells (vs.set f v) false)) b (vs.set f v) (kB xs f l):=by
  have hcell:v.cells=[v]∧v.isC=true:=by
    rcases hv with⟨_,rfl|rfl⟩|⟨d,rfl,_⟩<;>exact⟨rfl,rfl⟩
  have hlb:=(List.getElem?_eq_some_iff.1 hb).1;refine⟨?_,⟨by rw[List.getElem?_set_self hlb],by simpa using hl,?_,?_⟩⟩
  · rw[Du]
    simp only[stC,hb,hcell.1];rw[if_pos ⟨rfl,by omega,by simp[hcell.2]⟩];rfl
  · intro g u hu
    by_cases hg:g=f
    · subst hg
      rw[List.getElem?_set_self (by omega)]at hu;cases hu;rw[zB];exact hv.fm fun d n e=>by rw[List.getElem?_set_ne (by rintro rfl;exact hbo n e)]
    · rw[List.getElem?_set_ne (by omega)]at hu
      rw[EF _ _ hg];exact(ho g u hg hu).fm fun d n e=>by rw[List.getElem?_set_ne (by rintro rfl;exact hbg g n hg (by rw[hu,e]))]
  · intro f' g d n m hfg h1 h2
    by_cases e1:f'=f
    · subst e1
      rw[List.getElem?_set_self (by omega)]at h1;rw[List.getElem?_set_ne (by omega)]at h2;exact hn g d n m (by omega) (Option.some.inj h1) h2
    · rw[List.getElem?_set_ne (by omega)]at h1
      by_cases e2:g=f
      · subst e2
        rw[List.getElem?_set_self (by omega)]at h2;exact hn f' d m n e1 (Option.some.inj h2) h1
      · rw[List.getElem?_set_ne (by omega)]at h2
        exact ha f' g d n m e1 e2 hfg h1 h2
theorem bE.sR{H:List OB}{b:Nat}{vs:List AV}{xs:Nat→List Bytes}(h:bE H b vs xs):kZ vs b:=h.free h.blk (fun cs e=>by cases e)
theorem bE.app{H:List OB}{b:Nat}{vs:List AV}{xs:Nat→List Bytes}(h:bE H b vs xs){f:Nat}(hf:f<8)(s:Bytes)(hl:(xs f).length<1000000):
    ∃ v M,vs[f]? =some v∧al Tryz.prog 25 (.ptr b f) H=some v∧aG Tryz.prog 25 25 (deN v) (.vsl 0 true [.str s]) H=some (.sl H.length 0 ((xs f).length+1) 0,M)∧
      aE Tryz.prog 25 (.ptr b f) (.sl H.length 0 ((xs f).length+1) 0) M=some (M.set b (.cells (vs.set f (.sl H.length 0 ((xs f).length+1) 0)) false))∧
      bE (M.set b (.cells (vs.set f (.sl H.length 0 ((xs f).length+1) 0)) false)) b (vs.set f (.sl H.length 0 ((xs f).length+1) 0)) (kB xs f (xs f++[s]))∧M.length=H.length+1∧ ∀i,i<H.length→kZ vs i→M[i]? =H[i]? :=by
  obtain⟨v,hv,hld,ho⟩:=h.slot hf;have hs:kN 0 AV.str H (deN v) (xs f):=by
    rcases ho with⟨e,rfl|rfl⟩|⟨d,rfl,hd⟩
    · exact .inl ⟨e,0,rfl⟩
    · exact .inl ⟨e,0,rfl⟩
    · exact .inr ⟨d,rfl,by rw[fY];exact hd⟩
  obtain⟨M,hap,hlen,hnew,hold⟩:=il (P:=Tryz.prog) (sT:=25) (wd:=0) (bytes:=16) Tryz.underlying25 ik AV.str (fun _=>rfl) (fun _=>rfl) (by decide) hs s true (by omega);rw[fY]at hnew;have hfree: ∀i,i<H.length→(∀n,v≠ .sl i 0 n 0)→M[i]? =H[i]? :=by
    intro i hi hn;refine hold i hi fun e=> ?_;rcases ho with⟨_,rfl|rfl⟩|⟨d,rfl,hd⟩
    · cases e
    · cases e
    · exact hn _ e
  have hb1:M[b]? =some (.cells vs false):=by
    rw[hfree b (List.getElem?_eq_some_iff.1 h.blk).1 fun n e=>h.sR f n (by rw[hv,e])];exact h.blk
  have hold2: ∀(g:Nat) (u:AV),g≠f→vs[g]? =some u→jk M u (xs g):=fun g u hg hu=>(h.own g u hu).fm fun d n e=>by
    refine hfree d ?_ fun m e2=> ?_
    · rcases h.own g u hu with⟨_,e3|e3⟩|⟨d',e3,h3⟩
      · rw[e]at e3;cases e3
      · rw[e]at e3;cases e3
      · rw[e]at e3;cases e3;exact(List.getElem?_eq_some_iff.1 h3).1
    · exact h.apart g f d n m hg (by rw[hu,e]) (by rw[hv,e2])
  obtain⟨q1,q2⟩:=bE.put (H:=M) (b:=b) (vs:=vs) (xs:=xs) (f:=f) (v:=.sl H.length 0 ((xs f).length+1) 0) (l:=xs f++[s]) hb1 h.len hf hold2 (fun f' g d n m h1 h2 h3=>h.apart f' g d n m h3)
    (.inr ⟨H.length,by simp,hnew⟩) (fun g d n m hg e=>by cases e;exact h.fresh (Nat.le_refl _) g m) (fun n e=>by have:=(List.getElem?_eq_some_iff.1 h.blk).1;cases e;omega) (fun g n hg=>h.sR g n)
  exact⟨v,M,hv,hld,hap,q1,q2,hlen,fun i hi hfr=>hfree i hi fun n e=>hfr f n (by rw[hv,e])⟩
theorem jk.fz{H:List OB}{v:AV}{l:List Bytes}{k:Nat}(h:jk H v l):∃u,fz H (k+1) v=some u∧Le u (.vsl 0 false (l.map .str)):=by
 rcases h with⟨rfl,rfl|rfl⟩|⟨d,rfl,hd⟩
 ·exact⟨_,rfl,.nils _ _⟩
 ·exact⟨_,rfl,.nil _ _ _⟩
 ·refine⟨.vsl 0 false (l.map .str),?_,.refl _⟩
  have e:(l.map AV.str).take l.length=l.map .str:=List.take_of_length_le (by simp);have:=oO (k:=k) (off:=0) (len:=l.length) hd (by simp) (by rw[List.drop_zero,e];exact aF l) (by rw[List.drop_zero,e];exact eo l);rwa[List.drop_zero,e]at this
def bc(xs:Nat→List Bytes):List Val:=(List.range 8).map fun f=>(false,xs f)
theorem bM(xs:Nat→List Bytes):(bc xs).length=8:=by simp[bc]
theorem ix(xs:Nat→List Bytes){f:Nat}(hf:f<8):ar (bc xs) f=xs f:=by simp[ar,bc,List.getD,hf]
theorem zC{xs ys:Nat→List Bytes}(h:∀f,f<8→xs f=ys f):bc xs=bc ys:=by
 refine List.map_congr_left fun f hf=>?_;rw[h f (List.mem_range.1 hf)]
theorem yo{H:List OB}{k:Nat}(xs:Nat→List Bytes):∀(vs:List AV) (o:Nat),(∀(f:Nat) (v:AV),vs[f]? =some v→jk H v (xs (o+f)))→∃us,vs.mapM (fz H (k+1))=some us∧Les us ((List.range' o vs.length).map fun f=>AV.vsl 0 false ((xs f).map .str))
 | [],o,h=>⟨[],rfl,.nil⟩
 |v::vs,o,h=>by
  obtain⟨u,h1,h2⟩:=(h 0 v rfl).fz (k:=k);obtain⟨us,h3,h4⟩:=yo (k:=k) xs vs (o+1) fun f v hv=>by have:=h (f+1) v (by simpa using hv);rwa[show o+(f+1)=o+1+f by omega]at this
  exact⟨u::us,by simp[List.mapM_cons,h1,h3],.cons _ _ _ _ (by simpa using h2) (by simpa[List.range'_succ]using h4)⟩
theorem bE.fz{H:List OB}{b:Nat}{vs:List AV}{xs:Nat→List Bytes}{k:Nat}(h:bE H b vs xs):∃us,fz H (k+2) (.agg vs)=some (.agg us)∧Les us ((bc xs).map av):=by
 obtain⟨us,h1,h2⟩:=yo (k:=k) xs vs 0 fun f v hv=>by rw[Nat.zero_add];exact h.own f v hv
 rw[h.len,←List.range_eq_range']at h2;have h2':Les us ((bc xs).map av):=by rw[bc,List.map_map];exact h2
 by_cases hh:AV.hfs vs=true
 ·refine⟨vs,cJ (by simpa[AV.hf]using hh),?_⟩
  have:vs.mapM (Go.Av.fz H (k+1))=some vs:=by
   have:∀l:List AV,AV.hfs l=true→l.mapM (Go.Av.fz H (k+1))=some l:=by
    intro l;induction l with
    |nil=>intro _;rfl
    |cons a l ih=>
     intro hl;simp only[AV.hfs,Bool.and_eq_true]at hl;simp[List.mapM_cons,cJ hl.1,ih hl.2]
   exact this vs hh
  rw[this]at h1;cases h1;exact h2'
 ·refine⟨us,?_,h2'⟩
  have:AV.hf (.agg vs)=false:=by simpa[AV.hf]using hh
  unfold Go.Av.fz;rw[this];simp only[Bool.false_eq_true,if_false,hh];rw[h1];rfl
theorem bE.ld{H:List OB}{b:Nat}{vs:List AV}{xs:Nat→List Bytes}(h:bE H b vs xs):al Tryz.prog 27 (.ptr b 0) H=some (.agg vs):=by
 simp[gQ,ldG,h.blk,h.len];exact List.take_of_length_le (by rw[h.len];exact Nat.le_refl _)
theorem FK:bZ Tryz.prog 27=some (.agg [.nilsl,.nilsl,.nilsl,.nilsl,.nilsl,.nilsl,.nilsl,.nilsl]):=by kernel_rfl
def bK:List AV:=[.nilsl,.nilsl,.nilsl,.nilsl,.nilsl,.nilsl,.nilsl,.nilsl]
theorem bE.none{H:List OB}{b:Nat}(h:H[b]? =some (.cells bK false)):bE H b bK (fun _=>[]):=by
 refine⟨h,rfl,fun f v hv=>.inl ⟨rfl,.inl ?_⟩,fun f g d n m hfg h1=>?_⟩
 ·have:=List.mem_of_getElem? hv
  simpa[bK]using this
 ·have:=List.mem_of_getElem? h1
  simp[bK]at this
theorem JD:aw Tryz.prog 25 0 []=some (.vsl 0 true []):=by simp[aw,Tryz.underlying25,ik]
theorem nkT:cx Tryz.prog 25=1:=by kernel_rfl
theorem nkP:cx Tryz.prog 44=1:=by kernel_rfl
theorem JE(t wd:Nat)(x:Bool)(a:AV)(l:List AV)(hk:cx Tryz.prog t=1)(p q:Nat):iM Tryz.prog .eql t (.vsl wd x (a::l)) (.const (.slice none p q))=some (.bool false):=by simp[iM,hk]
theorem JF(t wd:Nat)(x:Bool)(l:List AV)(w:AV)(o:BinOp):aW Tryz.prog o t (.vsl wd x l) w=none:=by cases o<;>rfl
theorem JG(t wd:Nat)(x:Bool)(l:List AV)(w:AV)(o:BinOp):fE Tryz.prog o t (.vsl wd x l) w=none:=by cases o<;>simp[fE]
set_option maxRecDepth 8000 in
theorem HC(x:Bool)(l:List Bytes)(hL:l.length≤1000000):bt Tryz.prog 112 [.vsl 0 x (l.map .str)] [] (eu l):=by
 refine bt.of0 Tryz.func112 rfl (ab enters Tryz.func112 rfl) (by simp[Tryz.ntmps112]) ?_;show W Tryz.prog 8 _ none _ _ _;refine .vc (by decide) ?_;cases l with
 | nil=>
  have h0:=oh [] (.vsl 0 x []) (fX [] x []);simp only[List.map_nil]
  repeat'(first|(simp(disch:=first|omega|(simp only[zL];omega))only[go_sem,seval,VA]))
  rintro(_|_)
  ·repeat'(first|(simp(disch:=first|omega|(simp only[zL];omega))only[go_sem,seval,JD,h0]))
   exact⟨_,rfl,.inl ⟨_,rfl,rfl,.inl ⟨rfl,rfl,rfl⟩⟩⟩
  ·repeat'(first|(simp(disch:=first|omega|(simp only[zL];omega))only[go_sem,seval]))
   exact⟨_,rfl,.inl ⟨_,rfl,rfl,.inl ⟨rfl,rfl,rfl⟩⟩⟩
 |cons a l=>
  have hn:=pJ [] (.vsl 0 x ((a::l).map .str)) (a::l) (fX [] x (a::l)) hL (by simp);have e1:=JE 25 0 x (.str a) (l.map .str) nkT 0 0;simp only[List.map_cons]at hn ⊢
  repeat'(first|(simp(disch:=first|omega|(simp only[zL];omega))only[go_sem,seval,e1,JF,JG,JD,hn]))
  exact⟨_,rfl,.inr ⟨0,0,(a::l).length,0,(a::l).map .str,true,rfl,rfl,aF _,.inr ⟨rfl,rfl⟩⟩⟩
def bR(l am:List Bytes):List Bytes:=l.filter fun s=>!decide (s∈am)
abbrev uQ(b:Nat):AV:=.func (.func 113) [] [.ptr b 0]
abbrev HD(x:Bool)(am:List Bytes):AV:=.func (.func 113) [] [.vptr [.vsl 0 x (am.map .str)]]
def pM(am:List Bytes)(v:AV):Bool:=match v with| .str s=>decide (s∈am)|_=>false
theorem yp(am:List Bytes):∀(l:List Bytes) (i:Nat),(fI (pM am) i (l.map .str)= -1∧bR l am=l)∨∃k,k<l.length∧fI (pM am) i (l.map .str)=((i+k:Nat):Int)∧bR (l.take (k+1)) am=l.take k
 | [],i=>.inl ⟨rfl,rfl⟩
 | s::l,i=>by
  rw[List.map_cons,fI];by_cases h:s∈am
  ·rw[if_pos (by simp[pM,h])]
   exact .inr ⟨0,by simp,by simp,by simp[bR,h]⟩
  ·rw[if_neg (by simp[pM,h])]
   rcases yp am l (i+1)with⟨e,hm⟩|⟨k,hk,e,hm⟩
   ·refine .inl ⟨by simpa using e,?_⟩
    simp[bR,h]at hm ⊢;exact hm
   ·refine .inr ⟨k+1,by simp;omega,?_,?_⟩
    ·rw[e];congr 1;omega
    ·simp[bR,h]at hm ⊢
     exact hm
theorem pR{l am:List Bytes}{j:Nat}{s:Bytes}(h:l[j]? =some s):bR (l.take (j+1)) am=if s∈am then bR (l.take j) am else bR (l.take j) am++[s]:=by
 rw[List.take_add_one,h];simp only[bR,List.filter_append,Option.toList_some,List.filter_cons,List.filter_nil];split<;>simp_all
theorem ki(l am:List Bytes):(bR l am).length≤l.length:=List.length_filter_le _ _
theorem B2{H:List OB}{b k:Nat}{x:Bool}{am:List Bytes}(hb:H[b]? =some (.cells [.vsl 0 x (am.map .str)] false)):fz H (k+2) (uQ b)=some (HD x am):=by
 have hc:AV.hf (.vsl 0 x (am.map .str))=true:=by simp[AV.hf,aF]
 have hp:fz H (k+1) (.ptr b 0)=some (.vptr [.vsl 0 x (am.map .str)]):=by
  unfold fz;rw[if_neg (by simp[AV.hf])];simp[hb,AV.hfs,hc]
 unfold fz;rw[if_neg (by simp[AV.hf,AV.hfs])];simp[AV.hfs,AV.hf,hp]
theorem jJ{H:List OB}{d k n:Nat}{c:List Bytes}{o:Bool}(hd:H[d]? =some (.cells (c.map .str) o))(hn:n≤c.length):fz H (k+1) (.sl d 0 n 0)=some (.vsl 0 false ((c.take n).map .str)):=by
 have:=oO (k:=k) (off:=0) (len:=n) hd (by simpa using hn) (by rw[List.drop_zero,←List.map_take];exact aF _) (by rw[List.drop_zero,←List.map_take];exact eo _);rwa[List.drop_zero,←List.map_take]at this
set_option maxRecDepth 8000 in
theorem LA {H:List OB} {d b:Nat} {l am:List Bytes} {x:Bool} (hd:H[d]? =some (.cells (l.map .str) true)) (hb:H[b]? =some (.cells [.vsl 0 x (am.map .str)] false)) (hl:l.length≤1000000):
    bF Tryz.prog 111 [.sl d 0 l.length 0,uQ b] H (.ret (.sl d 0 (bR l am).length 0)) (eh H d true (bR l am++List.replicate (l.length - (bR l am).length) [])):=by
  refine bt.one ?_;have hdl:=(List.getElem?_eq_some_iff.1 hd).1;have hself:=jI hd;have hdb:b≠d:=by rintro rfl;injection(Option.some.inj (hd.symm.trans hb))with _ h;cases h
  have hbR: ∀c,(eh H d true c)[b]? =some (.cells [.vsl 0 x (am.map .str)] false):=fun c=>by rw[eh,List.getElem?_set_ne (by omega)];exact hb
  refine bt.ofX Tryz.func111 rfl (ab enters Tryz.func111 rfl) (by simp[Tryz.ntmps111]) ?_;show W Tryz.prog 42 _ none _ _ ⟨bn 0 [.sl d 0 l.length 0,uQ b],H,[]⟩;have hln: ∀o n M,aI Tryz.prog 25 (.sl d o n 0) M=some (.int .i64 n):=by intro o n M;simp[aI,Tryz.underlying25]
  have hix:=Ha false (l.map .str) 113 [] [.vptr [.vsl 0 x (am.map .str)]] (pM am) (fun v hv=>by obtain⟨s,_,rfl⟩:=List.mem_map.1 hv;rfl) ⟨aF l,rfl,by simp[AV.hfs,AV.hf,aF]⟩
    (fun v hv=>by obtain⟨s,_,rfl⟩:=List.mem_map.1 hv;exact FI x am s)
  have hle:aX H [.sl d 0 l.length 0,uQ b] (.ret (.int .i64 (fI (pM am) 0 (l.map .str))))=some [.vsl 0 false (l.map .str),HD x am]:=by
    refine dG rfl rfl ?_;have:=jJ (k:=19) hd (Nat.le_refl _);rw[List.take_length]at this;simp only[List.mapM_cons,List.mapM_nil,this,B2 (k:=18) hb];rfl
  rcases yp am l 0 with⟨e,hm⟩|⟨k,hk,e,hm⟩
  · rw[e]at hix hle
    rw[hm,Nat.sub_self,List.replicate_zero,List.append_nil,hself];refine .vc (by decide) ?_
    repeat'(first|(simp(disch:=first|omega|(simp only[zL];omega))only[go_sem,seval])|(guard_target=~ aj _ _ _ _ _ _ _;refine aj.aX _ hix hle ?_))
    exact⟨_,_,⟨rfl,rfl⟩,_,rfl,rfl,_,rfl,rfl⟩
  · rw [Nat.zero_add]at e
    rw[e]at hix hle;have hk1:((k:Int)== -1)=false:=by simp
    refine .vc (by decide) ?_
    repeat'(first|(simp(disch:=first|omega|(simp only[zL];omega))only[go_sem,seval,hk1])|(guard_target=~ aj _ _ _ _ _ _ _;refine aj.aX _ hix hle ?_))
    refine W.bh (X:=Nat×Nat×List Bytes) (fun y=>[(6,.int .i64 (y.1:Int)),(5,.int .i64 (y.2.1:Int)),(0,.sl d 0 l.length 0),(1,uQ b)]) (fun y=>eh H d true y.2.2)
      (fun y=>y.2.2.length=l.length∧y.2.1<y.1∧y.1≤l.length∧y.2.2.take y.2.1=bR (l.take y.1) am∧y.2.2.drop y.1=l.drop y.1) (fun y=>l.length - y.1) (k+1,k,l) ⟨rfl,Nat.lt_succ_self _,hk,hm.symm,rfl⟩ ⟨rfl,rfl,rfl,rfl,trivial⟩ hself.symm ?_
    rintro⟨j,i,c⟩ ⟨k1,k2,k3,k4,k5⟩;simp only at k1 k2 k3 k4 k5 ⊢;by_cases h:j<l.length
    · obtain⟨s,hs,_⟩:=drop_at h
      have cs:c[j]? =some s:=by have:=congrArg (·[0]?) k5;simpa[List.getElem?_drop,hs]using this
      have hj: ∀M,ah Tryz.prog 25 (.sl d 0 l.length 0) (.int .i64 (j:Int)) M=some (.ptr d j):=by
        intro M;rw[gY 0 _ j h,Nat.zero_add]
      have hi: ∀M,ah Tryz.prog 25 (.sl d 0 l.length 0) (.int .i64 (i:Int)) M=some (.ptr d i):=by
        intro M;rw[gY 0 _ i (by omega),Nat.zero_add]
      have g1:=mY (opn:=true) hdl cs;have g2:=pN (opn:=true) hdl (c:=c) (i:=i) (by omega) s;have hmt:=pR (am:=am) hs;have hdel:=FI x am s;have hle2:aX (eh H d true c) [.str s,.ptr b 0] (.ret (.bool (decide (s∈am))))=some [.str s,.vptr [.vsl 0 x (am.map .str)]]:=by
        refine dG rfl rfl ?_;have hp:fz (eh H d true c) 20 (.ptr b 0)=some (.vptr [.vsl 0 x (am.map .str)]):=wi (hbR c) (by simp) (by simp[AV.hfs,AV.hf,aF]);simp only[List.mapM_cons,List.mapM_nil,hp,cJ (show AV.hf (.str s)=true from rfl)];rfl
      by_cases hq:s∈am
      · rw[if_pos hq]at hmt
        rw[decide_eq_true hq]at hdel hle2;refine .vc (by decide) ?_
        repeat'(first|(simp(disch:=first|omega|(simp only[zL];omega))only[go_sem,seval,hln,hj,g1])|(guard_target=~ aj _ _ _ _ _ _ _;refine aj.aX _ hdel hle2 ?_))
        exact⟨(j+1,i,c),⟨k1,by simp only;omega,h,by simp only;rw[k4,hmt],by simp only;rw[←List.drop_drop,k5,List.drop_drop]⟩,by simp only;omega,⟨rfl,rfl,rfl,rfl,trivial⟩,rfl⟩
      · rw[if_neg hq]at hmt
        rw[decide_eq_false hq]at hdel hle2;refine .vc (by decide) ?_
        repeat'(first|(simp(disch:=first|omega|(simp only[zL];omega))only[go_sem,seval,hln,hj,hi,g1,g2])|(guard_target=~ aj _ _ _ _ _ _ _;refine aj.aX _ hdel hle2 ?_))
        refine⟨(j+1,i+1,c.set i s),⟨by simpa using k1,by simp only;omega,h,?_,?_⟩,by simp only;omega,⟨rfl,rfl,rfl,rfl,trivial⟩,rfl⟩
        · simp only
          rw[hmt,←k4,List.take_add_one,List.getElem?_set_self (by omega),List.take_set_of_le (Nat.le_refl _)];rfl
        · simp only
          rw[List.drop_set_of_lt (by omega),←List.drop_drop,k5,List.drop_drop]
    · have e:j=l.length:=by omega
      have hcl:c.take i=bR l am:=by rw[k4,e,List.take_length]
      have hkl:(bR l am).length=i:=by rw[←hcl];simp;omega
      have s1:=pO (d:=d) 0 l.length i (by omega);rw[Nat.zero_add]at s1;have s2:=B1 (d:=d) 0 l.length i (by omega);have s3:=yn (opn:=true) hdl (c:=c) (k:=i) (n:=l.length - i) (by omega) (by omega);rw[hkl,←hcl];refine .vc (by decide) ?_
      repeat'(first|(simp(disch:=first|omega|(simp only[zL];omega))only[go_sem,seval,hln,s1,s2,s3]))
      exact⟨_,_,⟨rfl,rfl⟩,_,rfl,rfl,_,rfl,rfl⟩
theorem HE{H:List OB}{b:Nat}{am:List Bytes}{x:Bool}(hb:H[b]? =some (.cells [.vsl 0 x (am.map .str)] false)):bF Tryz.prog 111 [.vsl 0 true [],uQ b] H (.ret (.vsl 0 true [])) H:=by
 refine bt.one ?_;refine bt.ofX Tryz.func111 rfl (ab enters Tryz.func111 rfl) (by simp[Tryz.ntmps111]) ?_;show W Tryz.prog 42 _ none _ _ ⟨bn 0 [.vsl 0 true [],uQ b],H,[]⟩;have hix:=Ha true [] 113 [] [.vptr [.vsl 0 x (am.map .str)]] (pM am) (fun v hv=>by cases hv) ⟨rfl,rfl,by simp[AV.hfs,AV.hf,aF]⟩ (fun v hv=>by cases hv);rw[show fI (pM am) 0 []= -1 from rfl]at hix;have hle:aX H [.vsl 0 true [],uQ b] (.ret (.int .i64 (-1)))=some [.vsl 0 true [],HD x am]:=by
  refine dG rfl rfl ?_;simp only[List.mapM_cons,List.mapM_nil,cJ (show AV.hf (.vsl 0 true [])=true from rfl),B2 (k:=18) hb];rfl
 refine .vc (by decide) ?_
 repeat'(first|(simp(disch:=first|omega|(simp only[zL];omega))only[go_sem,seval])|(guard_target=~ aj _ _ _ _ _ _ _;refine aj.aX _ hix hle ?_))
 exact⟨_,_,⟨rfl,rfl⟩,_,rfl,rfl,_,rfl,rfl⟩
set_option maxRecDepth 8000 in
theorem JH(x y:Bool)(l am:List Bytes)(hl:l.length≤1000000):aa Tryz.prog 63 [.vsl 0 x (l.map .str),.vsl 0 y (am.map .str)] (.ret (.vsl 0 false ((bR l am).map .str))):=by
 refine aa.of Tryz.func63 rfl (ab enters Tryz.func63 rfl) (by simp[Tryz.ntmps63]) ?_;show W Tryz.prog 9 0 none _ _ _;refine W.vc (by decide) ?_;have hc:=bt.frame (H:=[.cells [.vsl 0 y (am.map .str)] false]) (by simp[AV.hfs,AV.hf,aF]) ((HC x l hl).mono fun o K h=>fj h)
 repeat'(first|(simp(disch:=first|omega|(simp only[zL];omega))only[go_sem,seval])|(guard_target=~ aj _ _ _ _ _ _ _;refine aj.any _ hc ?_))
 rintro out K (⟨r,rfl,hr,⟨e,rfl⟩,rfl⟩|⟨off,len,wd,cs,opn,rfl,hcs,⟨rfl,rfl,rfl,rfl,rfl⟩,rfl⟩)
 ·subst e
  have hd:=HE (H:=[.cells [.vsl 0 y (am.map .str)] false]) (b:=0) (am:=am) (x:=y) rfl
  repeat'(first|(simp(disch:=first|omega|(simp only[zL];omega))only[go_sem,seval])|(guard_target=~ aj _ _ _ _ _ _ _;refine aj.sh hd ?_))
  exact wh 4 rfl rfl rfl rfl (.exact _ _ _)
 ·have hd:=LA (H:=[.cells [.vsl 0 y (am.map .str)] false,.cells (l.map .str) true]) (d:=1) (b:=0) (l:=l) (am:=am) (x:=y) rfl rfl hl
  simp only[List.length_cons,List.length_nil,List.cons_append,List.nil_append,Nat.zero_add]
  repeat'(first|(simp(disch:=first|omega|(simp only[zL];omega))only[go_sem,seval])|(guard_target=~ aj _ _ _ _ _ _ _;refine aj.sh hd ?_))
  have hz:=jJ (H:=eh [.cells [.vsl 0 y (am.map .str)] false,.cells (l.map .str) true] 1 true (bR l am++List.replicate (l.length - (bR l am).length) [])) (d:=1) (k:=19) (n:=(bR l am).length) (jH (by simp) _) (by simp);rw[List.take_left]at hz;exact nQ 4 rfl rfl rfl hz (.refl _)
theorem JI{P:Program}(hm:P.follows .mixedOrders=true)(hN:Go.Av.Enters P)(d:Nat){f:FuncId}{args:List AV}{H H':List OB}{out:Out}(h:cZ P A4 d (.fn f) args H=some (out,H')):bF P f args H out H':=
 (oN (P:=P) (Y:=A4) ⟨hm,hN,fun f args out h=>(by cases h),fun f args H out H' h=>(by cases h)⟩ d).1 (.fn f) args H out H' h
def HF:List Bytes:=[[92],[92,92],[44],[92,44],[59],[92,59],[10],[92,110]]
def obE:OB:=.cells (HF.map .str) true
def LB(a b c d n:AV):List AV:=(List.range 256).map fun k=>if k=10 then a else if k=59 then b else if k=44 then c else if k=92 then d else n
def bsC:OB:=.cells (LB (.sl 4 0 2 0) (.sl 5 0 2 0) (.sl 6 0 2 0) (.sl 7 0 2 0) .nilsl++[.sl 2 0 4 0]) false
def bsT:List OB:=[.cells [.str [10],.str [59],.str [44],.str [92]] false,bsC,
   .cells (aA [92,110]) true,.cells (aA [92,59]) true,.cells (aA [92,44]) true,.cells (aA [92,92]) true]
theorem HG:bF Tryz.prog 176 [.ptr 1 0] [obE,obR] (.ret (.iface 236 (.ptr 3 0))) (obE::obR::bsT):=
 JI mixed enters 2 (by kernel_rfl)
def JJ:OB:=.cells [.int .u32 0,.int .i32 1,.int .u32 0,.iface 236 (.ptr 3 0),.vsl 0 true []] false
def B3:OB:=.cells [.int .u32 1,.int .i32 0,.int .u32 0,.iface 236 (.ptr 3 0),.vsl 0 true []] false
theorem JK:bF Tryz.prog 143 [.ptr 1 0] [obE,obR] (.ret (.tup [])) (obE::JJ::bsT):=by
 refine bF.ofX Tryz.func143 rfl (ab enters Tryz.func143 rfl) (by simp[Tryz.ntmps143]) ?_;show W Tryz.prog 10 2 none _ _ _;have h1:aE Tryz.prog 175 (.ptr 1 3) (.iface 236 (.ptr 3 0)) (obE::obR::bsT)=some (obE::.cells [.int .u32 0,.int .i32 1,.int .u32 0,.iface 236 (.ptr 3 0),.sl 0 0 8 0] false::bsT):=by kernel_rfl
 have h2:aE Tryz.prog 25 (.ptr 1 4) (.vsl 0 true []) (obE::.cells [.int .u32 0,.int .i32 1,.int .u32 0,.iface 236 (.ptr 3 0),.sl 0 0 8 0] false::bsT)=some (obE::JJ::bsT):=by kernel_rfl
 refine .seq (.region [.sh (.ret (.iface 236 (.ptr 3 0))) (obE::obR::bsT)] (by decide) ?_);simp only[ao,gdA,ae,ad,ai,au,evalOp,St.ev,Av.get,St.put,bn,ak,Nat.reduceEqDiff,↓reduceIte,List.map_cons,List.map_nil,List.nil_append,List.append_nil,Option.map_some,Nat.zero_add,ej,sq,h1];refine⟨HG,?_⟩;refine .region [] (by decide) ?_;simp only[ao,gdA,ae,ad,ai,au,evalOp,St.ev,Av.get,St.put,ofV,Nat.reduceEqDiff,↓reduceIte,Option.map_some,and_self,Nat.zero_add,ej,xD,h2];exact⟨_,rfl,rfl,_,rfl,rfl⟩
/-! ### The replacer, looked up -/
def e4:Bytes:=[10,59,44,92]
def rv(x:Nat):AV:=if x=10 then .vsl 0 false [.int .u8 92,.int .u8 110]else if x=59 then .vsl 0 false [.int .u8 92,.int .u8 59]else if x=44 then .vsl 0 false [.int .u8 92,.int .u8 44]else if x=92 then .vsl 0 false [.int .u8 92,.int .u8 92]else .nilsl
def eV:AV:=.vsl 0 false (e4.map fun x=>.str [x])
def eCs:List AV:=(List.range 256).map rv++[eV]
theorem HH(s:Bytes)(r:Bytes):aX (obE::B3::bsT) [.ptr 3 0,.str s] (.ret (.str r))=some [.vptr eCs,.str s]:=by kernel_rfl
def spB(x:UInt8):Bool:=x==10||x==59||x==44||x==92
theorem FL{x:UInt8}(h:spB x=false):rv x.toNat=.nilsl:=by
 have:=jD (fun x=>spB x||(!(x.toNat==10)&& !(x.toNat==59)&& !(x.toNat==44)&& !(x.toNat==92))) (by decide+kernel) x;simp only[h,Bool.false_or,Bool.and_eq_true,Bool.not_eq_true',beq_eq_false_iff_ne]at this;obtain⟨⟨⟨h1,h2⟩,h3⟩,h4⟩:=this;unfold rv;rw[if_neg h1,if_neg h2,if_neg h3,if_neg h4]
theorem sS{x:UInt8}(h:spB x=true):∃y:UInt8,jE x=[92,y]∧rv x.toNat=.vsl 0 false [.int .u8 92,.int .u8 y.toNat]:=by
 simp only[spB,Bool.or_eq_true,beq_iff_eq]at h;rcases h with((h|h)|h)|h<;>subst h
 ·exact⟨110,rfl,rfl⟩
 ·exact⟨59,rfl,rfl⟩
 ·exact⟨44,rfl,rfl⟩
 ·exact⟨92,rfl,rfl⟩
theorem sU{x:UInt8}(h:spB x=false):jE x=[x]:=by
 have:=jD (fun x=>spB x||(jE x==[x])) (by decide+kernel) x;simpa[h]using this
def ex(t:Bytes):Nat:=(t.filter spB).length
theorem EG{s:Bytes}{i:Nat}{x:UInt8}(h:s[i]? =some x):ex (s.take (i+1))=ex (s.take i)+(if spB x then 1 else 0):=by
 unfold ex;rw[List.take_add_one,h,List.filter_append];cases hx:spB x<;>simp[hx]
theorem B4:∀s:Bytes,(esc s).length=s.length+ex s
 | []=>rfl
 |x::s=>by
  rw[ir,List.length_append,B4 s,List.length_cons];unfold ex;cases hx:spB x with
  |false=>rw[sU hx,List.filter_cons_of_neg (by simp[hx])];simp;omega
  |true=>obtain⟨y,hy,_⟩:=sS hx;rw[hy,List.filter_cons_of_pos hx];simp;omega
theorem JL:∀s:Bytes,ex s=0→esc s=s
 | [],_=>rfl
 |x::s,h=>by
  unfold ex at h;cases hx:spB x with
  |true=>rw[List.filter_cons_of_pos hx]at h;simp at h
  |false=>rw[List.filter_cons_of_neg (by simp[hx])]at h;rw[ir,sU hx,JL s h];rfl
def cs4(s:Bytes)(i:Nat):Nat:=((e4.take i).map fun x=>s.count x).sum
theorem EH(s:Bytes):cs4 s 4=ex s:=by
 show s.count 10+(s.count 59+(s.count 44+(s.count 92+0)))=ex s;unfold ex;induction s with
 |nil=>rfl
 | cons x s ih=>
  cases hx:spB x with
  |true=>
   rw[List.filter_cons_of_pos hx,List.length_cons,←ih];simp only[spB,Bool.or_eq_true,beq_iff_eq]at hx;rcases hx with((h|h)|h)|h<;>subst h<;>simp[List.count_cons]<;>omega
  |false=>
   rw[List.filter_cons_of_neg (by simp[hx]),←ih];simp only[spB,Bool.or_eq_false_iff,beq_eq_false_iff_ne]at hx;simp[List.count_cons,hx]
theorem B5{s:Bytes}{i:Nat}{x:UInt8}(h:e4[i]? =some x):cs4 s (i+1)=cs4 s i+s.count x:=by
 unfold cs4;rw[List.take_add_one,h];simp
theorem B6(s:Bytes)(i:Nat)(hi:i≤4):cs4 s i≤4*s.length:=by
 have h:∀x,s.count x≤s.length:=fun x=>List.count_le_length;have:=h 10;have:=h 59;have:=h 44;have:=h 92
 match i,hi with
 |0,_=>simp[cs4]
 |1,_=>show s.count 10+0≤_;omega
 |2,_=>show s.count 10+(s.count 59+0)≤_;omega
 |3,_=>show s.count 10+(s.count 59+(s.count 44+0))≤_;omega
 |4,_=>show s.count 10+(s.count 59+(s.count 44+(s.count 92+0)))≤_;omega
theorem HI(s:Bytes)(x:UInt8)(hs:s.length≤1000000):aa Tryz.prog 279 [.str s,.str [x]] (.ret (.int .i64 (s.count x:Int))):=by
 refine aa.xF (V:=.int .i64 (Lib.countByte s x:Nat)) enters Tryz.func279 rfl wk (fun w=>(Tryz.strings_Count_one ⟨s.toArray⟩ x w).mono ?_) ?_
 ·rintro e w' ⟨rfl,rfl⟩
  exact⟨rfl,.refl _ _⟩
 ·intro F w
  have:Lib.countByte s x=s.count x:=rfl;exact .int _ _
theorem HJ(x:UInt8)(H:List OB):al Tryz.prog 108 (.vptr (eCs.drop x.toNat)) H=some (rv x.toNat):=by
 have h1:eCs[x.toNat]? =some (rv x.toNat):=by
  have:=x.toNat_lt;unfold eCs;rw[List.getElem?_append_left (by simp;omega)];simp[List.getElem?_range this]
 have h2:(rv x.toNat).isC=true:=by unfold rv;split<;>(try split)<;>(try split)<;>(try split)<;>rfl
 simp[al,Ft,IT,ldA,h1]
theorem HK(x:UInt8)(H:List OB):ah Tryz.prog 233 (.vptr eCs) (.int .u8 (x.toNat:Int)) H=some (.vptr (eCs.drop x.toNat)):=by
 have:=x.toNat_lt;simp[ah,bL,Tryz.underlying233,Ft,this]
theorem ns1(t wd:Nat)(x:Bool)(a:AV)(l:List AV)(hk:cx Tryz.prog t=1)(p q:Nat):iM Tryz.prog .neq t (.vsl wd x (a::l)) (.const (.slice none p q))=some (.bool true):=by simp[iM,hk]
theorem ns2(t wd:Nat)(x:Bool)(l:List AV)(w:AV)(o:BinOp):aW Tryz.prog o t (.vsl wd x l) w=none:=by cases o<;>rfl
theorem ns3(t wd:Nat)(x:Bool)(l:List AV)(w:AV)(o:BinOp):fE Tryz.prog o t (.vsl wd x l) w=none:=by cases o<;>simp[fE]
theorem EI:cx Tryz.prog 108=1:=by kernel_rfl
def wE(n:Nat)(out:Bytes):List OB:=[.cells (aA out++eE (n - out.length)) false]
theorem EJ(n:Nat)(out:Bytes)(a b:UInt8)(h:out.length+2≤n):mL Tryz.prog 108 (.sl 0 out.length (n - out.length) 0) (.vsl 0 false [.int .u8 a.toNat,.int .u8 b.toNat]) (wE n out)=some (.int .i64 2,wE n (out++[a,b])):=by
 have hset:cm (aA out++eE (n - out.length)) out.length [.int .u8 a.toNat,.int .u8 b.toNat]=aA (out++[a,b])++eE (n - (out++[a,b]).length):=by
  have:=qV (aA out) (eE (n - out.length)) [.int .u8 a.toNat,.int .u8 b.toNat] (by simp[eE];omega);rw[cG]at this;rw[this];congr 1
  ·simp[aA,bp]
  ·simp[eE,Nat.sub_sub]
 have hn:ch 1 (.vsl 0 false [.int .u8 a.toNat,.int .u8 b.toNat]) (wE n out)=some (2,[.int .u8 a.toNat,.int .u8 b.toNat]):=rfl;have hz:(eE (n - out.length)).length=n - out.length:=by simp[eE]
 simp only[mL,Tryz.underlying108,tz5,hn];simp only[wE,List.getElem?_cons_zero,esz,hset,↓reduceIte];rw[if_pos (by refine⟨trivial,rfl,by omega,?_⟩;rw[List.length_append,cG,hz];omega)];rfl
theorem HL(n:Nat)(out:Bytes)(a:UInt8)(h:out.length<n):aE Tryz.prog 5 (.ptr 0 out.length) (.int .u8 a.toNat) (wE n out)=some (wE n (out++[a])):=by
 have hset:(aA out++eE (n - out.length)).set out.length (.int .u8 a.toNat)=aA (out++[a])++eE (n - (out++[a]).length):=by
  have:=qV (aA out) (eE (n - out.length)) [.int .u8 a.toNat] (by simp[eE];omega);rw[cG,lH]at this;rw[this];congr 1
  ·simp[aA,bp]
  ·simp[eE,Nat.sub_sub]
 have hl:(aA out++eE (n - out.length)).length=n:=by rw[List.length_append,cG];simp[eE];omega
 rw[st5];simp[stC,wE,AV.cells,AV.isC,lH,hl,hset];omega
theorem HM(out:Bytes)(n:Nat)(h:out.length=n):cc Tryz.prog 108 9 (.sl 0 0 n 0) (wE n out)=some (.str out,wE n out):=by
 subst h;have hbl:=cG out;simp[cc,Tryz.underlying9,Tryz.underlying108,Tryz.underlying5,wE,eE,hbl,List.take_of_length_le,eU]
theorem LC{K:St→Prop}{Q:Ex→St→Prop}{a:St}:ak K Q .normal a=K a:=Eq.trans rfl rfl
set_option maxRecDepth 100000 in
theorem JM(H:List OB):al Tryz.prog 25 (.vptr (eCs.drop 256)) H=some eV:=by kernel_rfl
set_option maxRecDepth 8000 in
theorem B7(s:Bytes)(hs:s.length≤1000000):aa Tryz.prog 277 [.vptr eCs,.str s] (.ret (.str (esc s))):=by
 have hld:=HJ;have hix:=HK;have hl1:=JM;generalize eCs=E at*;have hlen:=B4 s;have hexl:ex s≤s.length:=by unfold ex;exact List.length_filter_le _ _
 have hne1:=ne1;refine aa.of Tryz.func277 rfl (ab enters Tryz.func277 rfl) (by simp[Tryz.ntmps277]) ?_;show W Tryz.prog 122 0 none _ _ _;refine .seq (.vc (by decide) ?_)
 repeat'(first|(simp(disch:=first|omega|(simp only[zL];omega))only[go_sem,Nat.reduceEqDiff,↓reduceIte,Nat.reduceAdd,Nat.reduceMul,Nat.reduceSub,Nat.reduceLeDiff,Nat.reduceLT,Int.reduceToNat,Int.reduceLE]))
 refine .seq (.vc (by decide) ?_)
 repeat'(first|(simp(disch:=first|omega|(simp only[zL];omega))only[go_sem,Nat.reduceEqDiff,↓reduceIte,Nat.reduceAdd,Nat.reduceMul,Nat.reduceSub,Nat.reduceLeDiff,Nat.reduceLT,Int.reduceToNat,Int.reduceLE]))
 refine .seq (.vc (by decide) ?_)
 repeat'(first|(simp(disch:=first|omega|(simp only[zL];omega))only[go_sem,Nat.reduceEqDiff,↓reduceIte,Nat.reduceAdd,Nat.reduceMul,Nat.reduceSub,Nat.reduceLeDiff,Nat.reduceLT,Int.reduceToNat,Int.reduceLE]))
 refine W.oP [(5,.int .i64 ((s.length+ex s:Nat):Int)),(6,.bool (decide (0<ex s))),(0,.vptr E),(1,.str s)] [] (.vc (by decide) ?_) ?_
 ·have hle:aI Tryz.prog 25 eV []=some (.int .i64 4):=by kernel_rfl
  have hdV:deN eV=eV:=rfl;have hmul8:aW Tryz.prog .mul 3 (.int .i64 4) (.int .i64 8)=some (.int .i64 32):=by kernel_rfl
  by_cases h32:32≤s.length
  ·repeat'(first|(simp(disch:=first|omega|(simp only[zL];omega))only[go_sem,Nat.reduceEqDiff,↓reduceIte,Nat.reduceAdd,Nat.reduceMul,Nat.reduceSub,Nat.reduceLeDiff,Nat.reduceLT,Int.reduceToNat,Int.reduceLE,hl1,hle,hdV,hmul8]))
   refine W.bh (X:=Nat) (fun i=>[(32,.int .i64 (i:Int)),(31,.int .i64 4),(30,eV),(5,.int .i64 ((s.length+cs4 s i:Nat):Int)),(6,.bool (decide (0<cs4 s i))),(0,.vptr E),(1,.str s)]) (fun _=>[]) (fun i=>i≤4) (fun i=>4 - i) 0 (Nat.zero_le _) ⟨rfl,rfl,rfl,rfl,rfl,rfl,rfl,trivial⟩ rfl ?_;intro i hi;have hcle:=B6 s i hi;have hcle1:=B6 s (i+1);refine .vc (by decide) ?_;by_cases h:i<4
   ·obtain⟨x,hx⟩:∃x,e4[i]? =some x:=⟨_,List.getElem?_eq_getElem (by simpa[e4]using h)⟩
    have hia:∀H,ah Tryz.prog 25 eV (.int .i64 (i:Int)) H=some (.vptr [.str [x]]):=fun H=>dW (v:=.str [x]) (by simp[hx]) rfl H;have hcs:=B5 (s:=s) hx;have hc:=HI s x hs;have hcl:=List.count_le_length (a:=x) (l:=s);have hsp:spB x=true:=by
     match i,h with
     |0,_=>cases hx;rfl
     |1,_=>cases hx;rfl
     |2,_=>cases hx;rfl
     |3,_=>cases hx;rfl
    obtain⟨y,_,hrv⟩:=sS hsp;have hx0:dP Tryz.prog 9 (.str [x]) (.int .i64 0)=some (.int .u8 x.toNat):=xi9 (n:=0) rfl;by_cases h0:s.count x=0
    ·rw[h0]at hc hcs
     repeat'(first|(simp(disch:=first|omega|(simp only[zL];omega))only[go_sem,Nat.reduceEqDiff,↓reduceIte,Nat.reduceAdd,Nat.reduceMul,Nat.reduceSub,Nat.reduceLeDiff,Nat.reduceLT,Int.reduceToNat,Int.reduceLE,hia])|((with_reducible first|apply aj.pure|apply an.pure);(with_reducible exact hc);(first|rfl|simp only[go_sem])))
     refine⟨i+1,by omega,by omega,⟨rfl,rfl,rfl,by rw[hcs];rfl,by rw[hcs];rfl,rfl,rfl,trivial⟩⟩
    ·have h0':0<s.count x:=by omega
     repeat'(first|(simp(disch:=first|omega|(simp only[zL];omega))only[go_sem,Nat.reduceEqDiff,↓reduceIte,Nat.reduceAdd,Nat.reduceMul,Nat.reduceSub,Nat.reduceLeDiff,Nat.reduceLT,Int.reduceToNat,Int.reduceLE,hia])|((with_reducible first|apply aj.pure|apply an.pure);(with_reducible exact hc);(first|rfl|simp only[go_sem])))
     refine W.aO [] [false,false,false,false,false,false,false,false,false,false,false,false,false,false] [] mixed (by kernel_rfl) (by kernel_rfl) (by kernel_rfl) ?_;have hmul:aW Tryz.prog .mul 3 (.int .i64 (s.count x:Int)) (.int .i64 (((2:Nat):Int) - 1))=some (.int .i64 (s.count x:Int)):=by
      have:IntKind.i64.wrap ((s.count x:Int)*(((2:Nat):Int) - 1))=(s.count x:Int):=by rw[show((s.count x:Int)*(((2:Nat):Int) - 1))=(s.count x:Int) by simp,Go.Av.wrap64 _ ⟨by omega,by omega⟩]
      simp only[aW,this,↓reduceIte]
     repeat'(first|(simp(disch:=first|omega|(simp only[zL];omega))only[go_sem,Nat.reduceEqDiff,↓reduceIte,Nat.reduceAdd,Nat.reduceMul,Nat.reduceSub,Nat.reduceLeDiff,Nat.reduceLT,Int.reduceToNat,Int.reduceLE,hx0,hix,hld,hrv,hmul,Fz]))
     refine⟨i+1,by omega,by omega,⟨rfl,rfl,rfl,by simp only[Av.get,Nat.reduceEqDiff,↓reduceIte];rw[hcs];congr 1;omega,by rw[hcs];simp[Av.get];omega,rfl,rfl,trivial⟩⟩
   ·have e:i=4:=by omega
    subst e;rw[EH]
    repeat'(first|(simp(disch:=first|omega|(simp only[zL];omega))only[go_sem,Nat.reduceEqDiff,↓reduceIte,Nat.reduceAdd,Nat.reduceMul,Nat.reduceSub,Nat.reduceLeDiff,Nat.reduceLT,Int.reduceToNat,Int.reduceLE]))
    exact⟨rfl,rfl,rfl,rfl,trivial⟩
  ·repeat'(first|(simp(disch:=first|omega|(simp only[zL];omega))only[go_sem,Nat.reduceEqDiff,↓reduceIte,Nat.reduceAdd,Nat.reduceMul,Nat.reduceSub,Nat.reduceLeDiff,Nat.reduceLT,Int.reduceToNat,Int.reduceLE,hl1,hle,hdV,hmul8]))
   refine W.bh (X:=Nat) (fun i=>[(10,.int .i64 (i:Int)),(5,.int .i64 ((s.length+ex (s.take i):Nat):Int)),(6,.bool (decide (0<ex (s.take i)))),(0,.vptr E),(1,.str s)]) (fun _=>[]) (fun i=>i≤s.length) (fun i=>s.length - i) 0 (Nat.zero_le _) ⟨rfl,rfl,rfl,rfl,rfl,trivial⟩ rfl ?_;intro i hi;refine .vc (by decide) ?_;by_cases h:i<s.length
   ·obtain⟨x,hx,hdrop⟩:=drop_at h
    have hex:=EG hx;have hxl:ex (s.take i)≤s.length:=Nat.le_trans (List.length_filter_le _ _) (by simp;omega);cases hsp:spB x with
    |false=>
     have hrv:=FL hsp;rw[hsp]at hex
     repeat'(first|(simp(disch:=first|omega|(simp only[zL];omega))only[go_sem,Nat.reduceEqDiff,↓reduceIte,Nat.reduceAdd,Nat.reduceMul,Nat.reduceSub,Nat.reduceLeDiff,Nat.reduceLT,Int.reduceToNat,Int.reduceLE,xi9 hx,hix,hld,hrv,ne1 _ _ _ EI,ne2 108 .nilsl,ne3]))
     refine⟨i+1,by omega,by omega,⟨rfl,by rw[hex];simp[Av.get],by rw[hex];simp[Av.get],rfl,rfl,trivial⟩⟩
    |true=>
     obtain⟨y,_,hrv⟩:=sS hsp;rw[hsp]at hex
     repeat'(first|(simp(disch:=first|omega|(simp only[zL];omega))only[go_sem,Nat.reduceEqDiff,↓reduceIte,Nat.reduceAdd,Nat.reduceMul,Nat.reduceSub,Nat.reduceLeDiff,Nat.reduceLT,Int.reduceToNat,Int.reduceLE,xi9 hx,hix,hld,hrv,ns1 _ _ _ _ _ EI,ns2,ns3,Fz]))
     refine⟨i+1,by omega,by omega,⟨rfl,by rw[hex];simp[Av.get];omega,by rw[hex];simp[Av.get],rfl,rfl,trivial⟩⟩
   ·have e:i=s.length:=by omega
    subst e;rw[List.take_length]
    repeat'(first|(simp(disch:=first|omega|(simp only[zL];omega))only[go_sem,Nat.reduceEqDiff,↓reduceIte,Nat.reduceAdd,Nat.reduceMul,Nat.reduceSub,Nat.reduceLeDiff,Nat.reduceLT,Int.reduceToNat,Int.reduceLE]))
    exact⟨rfl,rfl,rfl,rfl,trivial⟩
 refine W.rZ (ex s≠0) [(5,.int .i64 ((s.length+ex s:Nat):Int)),(0,.vptr E),(1,.str s)] [] (.vc (by decide) ?_) ?_
 ·by_cases h0:ex s=0
  ·have hd0:decide (0<ex s)=false:=decide_eq_false (by omega)
   rw[hd0]
   repeat'(first|(simp(disch:=first|omega|(simp only[zL];omega))only[go_sem,Nat.reduceEqDiff,↓reduceIte,Nat.reduceAdd,Nat.reduceMul,Nat.reduceSub,Nat.reduceLeDiff,Nat.reduceLT,Int.reduceToNat,Int.reduceLE]))
   rw[JL s h0];exact⟨_,rfl,_,rfl,.refl _⟩
  ·have hd0:decide (0<ex s)=true:=decide_eq_true (by omega)
   rw[hd0]
   repeat'(first|(simp(disch:=first|omega|(simp only[zL];omega))only[go_sem,Nat.reduceEqDiff,↓reduceIte,Nat.reduceAdd,Nat.reduceMul,Nat.reduceSub,Nat.reduceLeDiff,Nat.reduceLT,Int.reduceToNat,Int.reduceLE]))
   exact⟨h0,rfl,rfl,rfl,trivial⟩
 intro h0;rw[←hlen];obtain⟨N,hN⟩:∃N,N=(esc s).length:=⟨_,rfl⟩
 rw[←hN];have hmk:eY Tryz.prog 108 (.int .i64 (N:Int)) (.int .i64 (N:Int)) []=some (.sl 0 0 N 0,wE N []):=by
  have hz8:bZ Tryz.prog 5=some (.int .u8 0):=by kernel_rfl
  have hr:rep N (AV.cells (.int .u8 0))=eE N:=by simp[rep,eE,AV.cells,List.flatten_replicate_singleton]
  simp only[eY,Tryz.underlying108,bL,ub,hz8,List.length_nil,List.nil_append,hr];rw[if_pos (by omega)];rfl
 refine .vc (by decide) ?_
 repeat'(first|(simp(disch:=first|omega|(simp only[zL];omega))only[go_sem,Nat.reduceEqDiff,↓reduceIte,Nat.reduceAdd,Nat.reduceMul,Nat.reduceSub,Nat.reduceLeDiff,Nat.reduceLT,Int.reduceToNat,Int.reduceLE,hmk]))
 refine W.bh (X:=Nat) (fun i=>[(14,.int .i64 (i:Int)),(13,.int .i64 ((esc (s.take i)).length:Int)),(12,.sl 0 0 N 0),(0,.vptr E),(1,.str s)]) (fun i=>wE N (esc (s.take i))) (fun i=>i≤s.length) (fun i=>s.length - i) 0 (Nat.zero_le _) ⟨rfl,rfl,rfl,rfl,rfl,trivial⟩ rfl ?_;intro i hi;refine .vc (by decide) ?_;by_cases h:i<s.length
 ·obtain⟨x,hx,hdrop⟩:=drop_at h
  have htk:=uE hx;have hle:=nH s (i+1);rw[htk,←hN]at hle;obtain⟨o,ho⟩:∃o,o=esc (s.take i):=⟨_,rfl⟩
  rw[←ho]at htk hle ⊢;cases hsp:spB x with
  | false=>
   have hrv:=FL hsp;rw[sU hsp]at htk hle;simp only[List.length_append,List.length_cons,List.length_nil]at hle;have hput:=HL N o x (by omega);have hia:∀H,ah Tryz.prog 108 (.sl 0 0 N 0) (.int .i64 (o.length:Int)) H=some (.ptr 0 o.length):=by
    intro H;simp[ah,bL,Tryz.underlying108,tz5];omega
   repeat'(first|(simp(disch:=first|omega|(simp only[zL];omega))only[go_sem,Nat.reduceEqDiff,↓reduceIte,Nat.reduceAdd,Nat.reduceMul,Nat.reduceSub,Nat.reduceLeDiff,Nat.reduceLT,Int.reduceToNat,Int.reduceLE,xi9 hx,hix,hld,hrv,ne1 _ _ _ EI,ne2 108 .nilsl,ne3,hia,hput,LC]))
   exact⟨i+1,by omega,by omega,⟨rfl,by rw[htk];simp[Av.get],rfl,rfl,rfl,trivial⟩,by rw[htk]⟩
  | true=>
   obtain⟨y,hy,hrv⟩:=sS hsp;rw[hy]at htk hle;simp only[List.length_append,List.length_cons,List.length_nil]at hle;have hcp:=EJ N o 92 y (by omega);have hcp:mL Tryz.prog 108 (.sl 0 o.length (N - o.length) 0) (.vsl 0 false [.int .u8 92,.int .u8 y.toNat]) (wE N o)=some (.int .i64 2,wE N (o++[92,y])):=hcp;have hsl:bo Tryz.prog 108 (.sl 0 0 N 0) (some (.int .i64 (o.length:Int))) none none=some (.sl 0 o.length (N - o.length) 0):=by
    simp only[bo,Tryz.underlying108,tz5,cX .i64 o.length (show o.length≤N by omega),esz,↓reduceIte];rw[if_pos (by omega)];simp
   repeat'(first|(simp(disch:=first|omega|(simp only[zL];omega))only[go_sem,Nat.reduceEqDiff,↓reduceIte,Nat.reduceAdd,Nat.reduceMul,Nat.reduceSub,Nat.reduceLeDiff,Nat.reduceLT,Int.reduceToNat,Int.reduceLE,xi9 hx,hix,hld,hrv,ns1 _ _ _ _ _ EI,ns2,ns3]))
   refine W.aO [10] [false,false,false,false,false,false,false,false,false,false,true,false,false] [] mixed (by kernel_rfl) (by kernel_rfl) (by kernel_rfl) ?_
   repeat'(first|(simp(disch:=first|omega|(simp only[zL];omega))only[go_sem,Nat.reduceEqDiff,↓reduceIte,Nat.reduceAdd,Nat.reduceMul,Nat.reduceSub,Nat.reduceLeDiff,Nat.reduceLT,Int.reduceToNat,Int.reduceLE,hix,hld,hrv,hsl,hcp]))
   exact⟨i+1,by omega,by omega,⟨rfl,by rw[htk];simp[Av.get],rfl,rfl,rfl,trivial⟩,by rw[htk]⟩
 ·have e:i=s.length:=by omega
  subst e;rw[List.take_length];have hcv:=HM (esc s) N hN.symm
  repeat'(first|(simp(disch:=first|omega|(simp only[zL];omega))only[go_sem,Nat.reduceEqDiff,↓reduceIte,Nat.reduceAdd,Nat.reduceMul,Nat.reduceSub,Nat.reduceLeDiff,Nat.reduceLT,Int.reduceToNat,Int.reduceLE,hcv]))
  exact⟨_,rfl,_,rfl,.refl _⟩
theorem JN:jt Tryz.prog 236 "Replace" =some 277:=by kernel_rfl
theorem JO(s:Bytes)(hs:s.length≤1000000):bF Tryz.prog 107 [.ptr 1 0,.str s] [obE,obS] (.ret (.str (esc s))) (obE::B3::bsT):=by
 refine bF.ofX Tryz.func107 rfl (ab enters Tryz.func107 rfl) (by simp[Tryz.ntmps107]) ?_;show W Tryz.prog 17 2 none _ _ _;refine .seq (.region [] (by decide) ?_);simp only[ao,gdA,ae,ad,ai,au,evalOp,St.ev,St.put,bn,ofV,ak,Nat.zero_add];refine .seq (.region [.sh (.ret (.tup [])) (obE::B3::bsT)] (by decide) ?_);simp only[ao,gdA,ae,ad,ai,au,evalOp,St.ev,Av.get,St.put,ak,Nat.reduceEqDiff,↓reduceIte,List.map_cons,List.map_nil,List.nil_append,List.append_nil,Option.map_some,Nat.add_zero,ej,xC];refine⟨I7 (Nat.zero_le _) JK,?_⟩;refine .seq (.region [.pure (.ret (.str (esc s)))] (by decide) ?_)
 have hl:al Tryz.prog 175 (.ptr 1 3) (obE::B3::bsT)=some (.iface 236 (.ptr 3 0)):=by kernel_rfl
 simp only[ao,gdA,ae,ad,ai,au,evalOp,St.ev,Av.get,St.put,ak,Nat.reduceEqDiff,↓reduceIte,List.map_cons,List.map_nil,Option.map_some,Nat.zero_add,ej,sq,hl,JN,HH];refine⟨B7 s hs,?_⟩;exact .ret ⟨_,rfl,rfl,_,rfl,rfl⟩
set_option maxRecDepth 4000 in
theorem HN(s:Bytes)(hs:s.length≤1000000):aa Tryz.prog 61 [.str s] (.ret (.str (esc s))):=by
 refine aa.of Tryz.func61 rfl (ab enters Tryz.func61 rfl) (by simp[Tryz.ntmps61]) ?_;show W Tryz.prog 7 0 none _ _ _;refine .seq (.region [] (by decide) ?_);simp only[ao,gdA,ae,ad,ai,au,evalOp,St.ev,St.put,bn,ofV,ak];refine .seq (.region [.sh (.ret (.ptr 1 0)) [obE,obS],.sh (.ret (.str (esc s))) (obE::B3::bsT)] (by decide) ?_);have hb:aw Tryz.prog 25 8 [(0,.str [92]),(1,.str [92,92]),(2,.str [44]),(3,.str [92,44]),(4,.str [59]),(5,.str [92,59]),(6,.str [10]),(7,.str [92,110])]=some (.vsl 0 true (HF.map .str)):=by kernel_rfl
 have x1:({data:=#[92]}:ByteArray).size≤ay:=by decide
 have x2:({data:=#[92,92]}:ByteArray).size≤ay:=by decide
 have x3:({data:=#[44]}:ByteArray).size≤ay:=by decide
 have x4:({data:=#[92,44]}:ByteArray).size≤ay:=by decide
 have x5:({data:=#[59]}:ByteArray).size≤ay:=by decide
 have x6:({data:=#[92,59]}:ByteArray).size≤ay:=by decide
 have x7:({data:=#[10]}:ByteArray).size≤ay:=by decide
 have x8:({data:=#[92,110]}:ByteArray).size≤ay:=by decide
 simp only[ao,gdA,ae,ad,ai,au,evalOp,St.ev,Av.get,St.put,ofV,ak,Nat.reduceEqDiff,↓reduceIte,List.map_cons,List.map_nil,List.nil_append,List.append_nil,Option.map_some,x1,x2,x3,x4,x5,x6,x7,x8,hb];refine⟨GQ true HF rfl (by decide),JO s hs,?_⟩;exact .ret ⟨_,rfl,_,rfl,.refl _⟩
set_option maxRecDepth 8000 in
theorem LD(l:Ln)(k:Kd)(n:Bytes)(hv:l.v.length≤1000000):bt Tryz.prog 70 [encS l k n] [] (eu (dn k l.v)):=by
 obtain⟨fs,b,m⟩:=k;obtain⟨g,nm,x,ps,v⟩:=l;have hPh:=az ps;have hFh:AV.hfs (fs.map fun f:Nat=>AV.int .i64 (f:Int))=true:=by rw[be,List.all_eq_true];intro v hv;obtain⟨l,_,rfl⟩:=List.mem_map.1 hv;rfl
 obtain⟨P,hP⟩:∃P,P=ps.map aH:=⟨_,rfl⟩
 obtain⟨Fv,hF⟩:∃Fv,Fv=fs.map fun f:Nat=>AV.int .i64 (f:Int):=⟨_,rfl⟩
 simp only[encS,fsV,←hP,←hF,dn]at hPh hFh ⊢;have hpt:=BO v false hv;have hm:mk false=59:=rfl;rw[hm]at hpt;refine bt.of0 Tryz.func70 rfl (ab enters Tryz.func70 rfl) (by simp[Tryz.ntmps70]) ?_;show W Tryz.prog 15 _ none _ _ _;cases b with
 | true=>
  rw[if_pos rfl];have hc:=bt.frame (H:=[.cells [.str g,.str nm,.vsl 3 x P,.str v,.vsl 0 true Fv,.bool true,.bool m,.str n] false]) (by rfl) (hpt.mono fun o K h=>fj h);refine .vc (by decide) ?_
  repeat'(first|(simp(disch:=first|omega|(simp only[zL];omega))only[go_sem,seval])|(guard_target=~ aj _ _ _ _ _ _ _;refine aj.any _ hc ?_))
  rintro out K (⟨r,rfl,hr,⟨e,rfl⟩,rfl⟩|⟨off,len,wd,cs,opn,rfl,hcs,⟨rfl,rfl,rfl,rfl,rfl⟩,rfl⟩)
  ·repeat'(first|(simp(disch:=first|omega|(simp only[zL];omega))only[go_sem,seval]))
   exact⟨_,rfl,.inl ⟨_,rfl,rfl,.inl ⟨e,rfl,rfl⟩⟩⟩
  ·repeat'(first|(simp(disch:=first|omega|(simp only[zL];omega))only[go_sem,seval]))
   exact⟨_,rfl,.inr ⟨1,0,_,0,_,true,rfl,rfl,aF _,.inr ⟨rfl,rfl⟩⟩⟩
 |false=>
  rw[if_neg (by simp)];refine .seq (.vc (by decide) ?_)
  repeat'(first|(simp(disch:=first|omega|(simp only[zL];omega))only[go_sem,seval]))
  refine .seq (.seq (.vc (by decide) ?_))
  repeat'(first|(simp(disch:=first|omega|(simp only[zL];omega))only[go_sem,seval]))
  refine .cond (t:=true) rfl ?_;simp only[if_true];refine .seq (W.own (pre:=[_,_,_]) (rest:=[_]) (by decide) rfl ?_)
  repeat'(first|(simp(disch:=first|omega|(simp only[zL];omega))only[go_sem,seval]))
  refine⟨0,[.str v],kU v,?_⟩
  repeat'(first|(simp(disch:=first|omega|(simp only[zL];omega))only[go_sem,seval]))
  refine .vc (by decide) ?_
  repeat'(first|(simp(disch:=first|omega|(simp only[zL];omega))only[go_sem,seval]))
  exact⟨_,rfl,.inr ⟨1,0,_,0,_,true,rfl,rfl,rfl,.inr ⟨rfl,rfl⟩⟩⟩
def inB(s:Bytes)(l:List Bytes):Bool:=decide (s∈l)
theorem cR{s:Bytes}{l:List Bytes}:inB s l=true↔s∈l:=by simp[inB]
theorem zD(x:Bool)(l:List Bytes)(s:Bytes):aa Tryz.prog 101 [.vsl 0 x (l.map .str),.str s] (.ret (.bool (inB s l))):=by
 have h:=ri x l s;have e:decide (s∈l)=inB s l:=by unfold inB;by_cases q:s∈l<;>simp[q]
 rwa[e]at h
def cK(l:Ln)(k:Kd)(c:List Val):Ln×Bool:=
 if k.many then(l,((ba k l.v).headD []==([]:Bytes))||inB ((ba k l.v).headD []) (ar c (k.fs.headD 0)))
 else if ba k l.v=bw k c then(l,true)
 else({l with v:=Lib.join (bz (bw k c) (dn k l.v)) [59]},!((bz (bw k c) (dn k l.v)).flatten==[]))
theorem zLn(A B:OB)(a b c d:AV)(o:Bool):al Tryz.prog 46 (.ptr 2 0) [A,B,.cells [a,b,c,d] o]=some (.agg [a,b,c,d]):=by
 simp[vZ,ldG]
set_option maxRecDepth 8000 in
theorem zE(l:Ln)(f:Nat)(b:Bool)(n:Bytes)(c:List Val)(hc:c.length=8)(hf:f<8)(hv:l.v.length≤1000000):
    aa Tryz.prog 57 [encS l ⟨[f],b,true⟩ n,.agg (c.map av)] (.ret (.tup [aq l,.bool (((ba ⟨[f],b,true⟩ l.v).headD []==([]:Bytes))||inB ((ba ⟨[f],b,true⟩ l.v).headD []) (ar c f))])):=by
  have hw:=sQ ⟨[f],b,true⟩ c hc (by simp) (by simp[hf]);have hvs:=mq l ⟨[f],b,true⟩ n hv (by simp);obtain⟨s,hs⟩: ∃s,ba ⟨[f],b,true⟩ l.v=[s]:=⟨_,rfl⟩
  obtain⟨u,hu⟩: ∃u,c[f]? =some u:=⟨_,List.getElem?_eq_getElem (by omega)⟩
  rw[hs]at hvs ⊢;rw[eP c f u hu];obtain⟨W0,hW0⟩: ∃W0,W0=bw ⟨[f],b,true⟩ c:=⟨_,rfl⟩
  rw[←hW0]at hw;obtain⟨g,nm,x,ps,v⟩:=l;obtain⟨ux,ul⟩:=u;have hPh:=az ps;have hch:=aJ c;obtain⟨P,hP⟩: ∃P,P=ps.map aH:=⟨_,rfl⟩
  simp only[encS,fsV,aq,←hP,List.headD_cons,List.map_cons,List.map_nil]at hvs hw hPh ⊢;have hld1: ∀A B,al Tryz.prog 27 (.ptr 1 0) [A,.cells (c.map av) false,B]=some (.agg (c.map av)):=by
    intro A B;simp[gQ,ldG,hc];exact List.take_of_length_le (by simp[hc])
  have hld2: ∀A B,al Tryz.prog 25 (.ptr 1 f) [A,.cells (c.map av) false,B]=some (.vsl 0 ux (ul.map .str)):=fun A B=>kG _ 1 f c _ false rfl hu;have hi1: ∀H,ah Tryz.prog 64 (.vsl 0 true [.int .i64 (f:Int)]) (.int .i64 0) H=some (.vptr [.int .i64 (f:Int)]):=fun H=>zk (v:=.int .i64 (f:Int)) rfl rfl H;have hi2: ∀H,ah Tryz.prog 25 (.vsl 0 false [.str s]) (.int .i64 0) H=some (.vptr [.str s]):=fun H=>dW (v:=.str s) rfl rfl H;have hia:=eG 1 f hf;have hct:=zD ux ul s;by_cases h0:s=[]
  · have h1:(s==([]:Bytes))=true:=by simp[h0]
    rw[h1,Bool.true_or];refine aa.of Tryz.func57 rfl (ab enters Tryz.func57 rfl) (by simp[Tryz.ntmps57]) ?_;show W Tryz.prog 77 0 none _ _ _;refine W.vc (by decide) ?_
    repeat'(first|(simp(disch:=first|omega|(simp only[zL];omega))only[go_sem,seval,hld1,hld2,hi1,hi2,hia,h1])|((with_reducible first|apply aj.pure|apply an.pure);(with_reducible assumption);(first|rfl|simp only[go_sem,hPh,hch,aF])))
    refine W.aO [19] [false,false,false,false,false,false,false,false,false,false,false,false,false,false,false,false,false,false,false,true,false] [] mixed (by kernel_rfl) (by kernel_rfl) (by kernel_rfl) ?_
    repeat'(first|(simp(disch:=first|omega|(simp only[zL];omega))only[go_sem,seval,hld1,hld2,hi1,hi2,hia,h1])|((with_reducible first|apply aj.pure|apply an.pure);(with_reducible assumption);(first|rfl|simp only[go_sem,hPh,hch,aF])))
    exact ud 4 46 5 rfl rfl (zLn _ _ _ _ _ _ _) rfl (by simp[AV.hf,AV.hfs,hPh]) rfl
  · have h1:(s==([]:Bytes))=false:=by simp[h0]
    rw[h1,Bool.false_or];generalize inB s ul=q at hct ⊢;refine aa.of Tryz.func57 rfl (ab enters Tryz.func57 rfl) (by simp[Tryz.ntmps57]) ?_;show W Tryz.prog 77 0 none _ _ _;refine W.vc (by decide) ?_
    repeat'(first|(simp(disch:=first|omega|(simp only[zL];omega))only[go_sem,seval,hld1,hld2,hi1,hi2,hia,h1])|((with_reducible first|apply aj.pure|apply an.pure);(with_reducible assumption);(first|rfl|simp only[go_sem,hPh,hch,aF])))
    refine W.aO [19] [false,false,false,false,false,false,false,false,false,false,false,false,false,false,false,false,false,false,false,true,false] [] mixed (by kernel_rfl) (by kernel_rfl) (by kernel_rfl) ?_
    repeat'(first|(simp(disch:=first|omega|(simp only[zL];omega))only[go_sem,seval,hld1,hld2,hi1,hi2,hia,h1])|((with_reducible first|apply aj.pure|apply an.pure);(with_reducible assumption);(first|rfl|simp only[go_sem,hPh,hch,aF])))
    exact ud 4 46 5 rfl rfl (zLn _ _ _ _ _ _ _) rfl (by simp[AV.hf,AV.hfs,hPh]) rfl
set_option maxRecDepth 8000 in
theorem zF(l:Ln)(k:Kd)(n:Bytes)(c:List Val)(hc:c.length=8)(hk:k.fs.length≤8)(hf8: ∀f∈k.fs,f<8)(hm:k.many=false)(hv:l.v.length≤1000000)(he:ba k l.v=bw k c):
    aa Tryz.prog 57 [encS l k n,.agg (c.map av)] (.ret (.tup [aq l,.bool true])):=by
  have hw:=sQ k c hc hk hf8;have hvs:=mq l k n hv hk;have heq:=equalS false false (ba k l.v) (bw k c);rw[beq_iff_eq.2 he]at heq;generalize ba k l.v=vs at hvs heq;generalize bw k c=ws at hw heq;obtain⟨fs,b,m⟩:=k;simp only at hm;subst hm;obtain⟨g,nm,x,ps,v⟩:=l;have hPh:=az ps;have hch:=aJ c;have hFh:AV.hfs (fs.map fun f:Nat=>AV.int .i64 (f:Int))=true:=by rw[be,List.all_eq_true];intro v hv;obtain⟨l,_,rfl⟩:=List.mem_map.1 hv;rfl
  obtain⟨P,hP⟩: ∃P,P=ps.map aH:=⟨_,rfl⟩
  obtain⟨Fv,hF⟩: ∃Fv,Fv=fs.map fun f:Nat=>AV.int .i64 (f:Int):=⟨_,rfl⟩
  simp only[encS,fsV,aq,←hP,←hF]at hvs hw hPh hFh ⊢;have hld1: ∀A B,al Tryz.prog 27 (.ptr 1 0) [A,.cells (c.map av) false,B]=some (.agg (c.map av)):=by
    intro A B;simp[gQ,ldG,hc];exact List.take_of_length_le (by simp[hc])
  refine aa.of Tryz.func57 rfl (ab enters Tryz.func57 rfl) (by simp[Tryz.ntmps57]) ?_;show W Tryz.prog 77 0 none _ _ _;refine W.vc (by decide) ?_
  repeat'(first|(simp(disch:=first|omega|(simp only[zL];omega))only[go_sem,seval,hld1])|((with_reducible first|apply aj.pure|apply an.pure);(with_reducible assumption);(first|rfl|simp only[go_sem,hPh,hch,hFh,aF])))
  exact ud 4 46 5 rfl rfl (zLn _ _ _ _ _ _ _) rfl (by simp[AV.hf,AV.hfs,hPh]) rfl
theorem uR{ws cs:List Bytes}{i:Nat}{s:Bytes}(h:ws[i]? =some s):bz (ws.take (i+1)) cs=if i<(bz (ws.take i) cs).length then(bz (ws.take i) cs).set i (esc s)else(bz (ws.take i) cs++[[]]).set i (esc s):=by
 have hi:=(List.getElem?_eq_some_iff.1 h).1;have hl:(ws.take i).length=i:=by simp;omega
 have hl1:(ws.take (i+1)).length=i+1:=by simp;omega
 have e1:ws.take (i+1)=ws.take i++[s]:=by rw[List.take_add_one,h];rfl
 have hml:=mv (ws.take i) cs;unfold bz at hml ⊢;rw[hl]at hml;rw[hl1,e1,hl];have hA:((ws.take i).map esc).length=i:=by simp;omega
 by_cases hc:i<cs.length
 ·rw[if_pos (by rw[hml];omega),List.set_append_right _ _ (by omega),hA,Nat.sub_self]
  obtain⟨p,hp,hd⟩:=drop_at hc;rw[hd];simp
 ·rw[if_neg (by rw[hml];omega)]
  have d1:cs.drop i=[]:=List.drop_of_length_le (by omega);have d2:cs.drop (i+1)=[]:=List.drop_of_length_le (by omega);rw[d1,d2,List.append_nil,List.append_nil,List.set_append_right _ _ (by omega),hA,Nat.sub_self];simp
theorem iy{l:List Bytes}{b:Nat}(h:∀p∈l,p.length≤b):l.flatten.length≤b*l.length:=by
 induction l with
 |nil=>simp
 |cons a l ih=>
  have h1:=h a (by simp);have h2:=ih fun p hp=>h p (by simp[hp]);rw[List.flatten_cons,List.length_append,List.length_cons,Nat.mul_add];omega
theorem iz(s:Bytes):∀l:List Bytes,(Lib.join l s).length≤l.flatten.length+s.length*l.length
 | []=>by simp[Lib.join,List.intercalate]
 | [u]=>by simp[Lib.join,List.intercalate]
 |u::v::t=>by
  have:=iz s (v::t);rw[dy,List.length_append,List.length_append];simp only[List.flatten_cons,List.length_append,List.length_cons,Nat.mul_add]at this ⊢;omega
theorem EK{ws cs:List Bytes}{b:Nat}(h1:∀w∈ws,w.length≤b)(h2:∀p∈cs,p.length≤b):∀p∈bz ws cs,p.length≤2*b:=by
 intro p hp;rcases List.mem_append.1 hp with h|h
 ·obtain⟨w,hw,rfl⟩:=List.mem_map.1 h
  have:=gD w;have:=h1 w hw;omega
 ·have:=h2 p (List.mem_of_mem_drop h);omega
theorem EL(k:Kd)(v:Bytes):dn k v≠ []:=by
 unfold dn;split
 ·exact eR _ _ _ _
 ·simp
set_option maxRecDepth 8000 in
theorem B8 (l:Ln) (k:Kd) (n:Bytes) (c:List Val) (hc:c.length=8) (hk:k.fs.length≤8) (hf8: ∀f∈k.fs,f<8) (hm:k.many=false) (hv:l.v.length≤900000) (he:ba k l.v≠bw k c) (hwb: ∀w∈bw k c,w.length≤1000000):
    aa Tryz.prog 57 [encS l k n,.agg (c.map av)] (.ret (.tup [aq {l with v:=Lib.join (bz (bw k c) (dn k l.v)) [59]},.bool (!((bz (bw k c) (dn k l.v)).flatten==[]))])):=by
  have hw:=sQ k c hc hk hf8;have hv1:l.v.length≤1000000:=by omega
  have hvs:=mq l k n hv1 hk;have heq:=equalS false false (ba k l.v) (bw k c);rw[beq_eq_false_iff_ne.2 he]at heq;have hct:=LD l k n hv1;have hcne:=EL k l.v;have hcb: ∀p∈dn k l.v,p.length≤1000000:=fun p hp=>Nat.le_trans (uM hp) hv1;have hcl:(dn k l.v).length≤900001:=by have:=BU k l.v;omega
  have hwl:(bw k c).length≤8:=by simpa[bw]using hk
  clear he;generalize ba k l.v=vs at hvs heq;generalize bw k c=ws at hw heq hwb hwl ⊢;generalize dn k l.v=cs at hct hcne hcb hcl ⊢;have hmb:=EK hwb hcb;have hml:=mv ws cs;have hfb:=iy hmb;have hjb:=iz [59] (bz ws cs);simp only[List.length_cons,List.length_nil,Nat.zero_add,Nat.one_mul]at hjb;have hjv:=yk false (bz ws cs) [59] (by omega) (by omega);have hev:=BZ false (bz ws cs) (by omega) (by omega);obtain⟨fs,b,m⟩:=k;simp only at hm;subst hm;obtain⟨g,nm,x,ps,v⟩:=l;have hPh:=az ps;have hch:=aJ c
  have hFh:AV.hfs (fs.map fun f:Nat=>AV.int .i64 (f:Int))=true:=by rw[be,List.all_eq_true];intro v hv;obtain⟨l,_,rfl⟩:=List.mem_map.1 hv;rfl
  obtain⟨P,hP⟩: ∃P,P=ps.map aH:=⟨_,rfl⟩
  obtain⟨Fv,hF⟩: ∃Fv,Fv=fs.map fun f:Nat=>AV.int .i64 (f:Int):=⟨_,rfl⟩
  simp only[encS,fsV,aq,←hP,←hF]at hvs hw hct hPh hFh ⊢;have hld1: ∀A B,al Tryz.prog 27 (.ptr 1 0) [A,.cells (c.map av) false,B]=some (.agg (c.map av)):=by
    intro A B;simp[gQ,ldG,hc];exact List.take_of_length_le (by simp[hc])
  have hln: ∀o n M,aI Tryz.prog 25 (.sl o 0 n 0) M=some (.int .i64 n):=by intro o n M;simp[aI,Tryz.underlying25]
  have hlw: ∀M,aI Tryz.prog 25 (.vsl 0 false (ws.map .str)) M=some (.int .i64 ws.length):=by intro M;simp[aI,Tryz.underlying25]
  obtain⟨A,hA⟩: ∃A:List AV,A=[.str g,.str nm,.vsl 3 x P,.str v,.vsl 0 true Fv,.bool b,.bool false,.str n]:=⟨_,rfl⟩
  obtain⟨Z,hZ⟩: ∃Z:List AV,Z=[.str [],.str [],.nilsl,.str []]:=⟨_,rfl⟩
  have hfr:=bt.frame (H:=[.cells [.str g,.str nm,.vsl 3 x P,.str v,.vsl 0 true Fv,.bool b,.bool false,.str n] false,.cells (c.map av) false,.cells [.str [],.str [],.nilsl,.str []] false]) (by simp[AV.hfs,AV.hf,hPh,hFh]) (hct.mono fun o K h=>fj h);refine aa.of Tryz.func57 rfl (ab enters Tryz.func57 rfl) (by simp[Tryz.ntmps57]) ?_;show W Tryz.prog 77 0 none _ _ _;refine W.vc (by decide) ?_
  repeat'(first|(simp(disch:=first|omega|(simp only[zL];omega))only[go_sem,seval,hld1,hlw])|(guard_target=~ aj _ _ _ _ _ _ _;refine aj.any _ hfr ?_)|((with_reducible first|apply aj.pure|apply an.pure);(with_reducible assumption);(first|rfl|simp only[go_sem,hPh,hch,hFh,aF])))
  rintro out K (⟨r,rfl,hr,⟨e,rfl⟩,rfl⟩|⟨off,len,wd,cells,opn,rfl,hcs,⟨rfl,rfl,rfl,rfl,rfl⟩,rfl⟩)
  · exact(hcne e).elim
  simp only[List.length_cons,List.length_nil,List.cons_append,List.nil_append,Nat.zero_add,←hA,←hZ]
  repeat'(first|(simp(disch:=first|omega|(simp only[zL];omega))only[go_sem,seval,hlw]))
  have hp0:bz (ws.take 0) cs=cs:=by simp[bz]
  refine W.loop (X:=Nat) (fun i a=> ∃d,aB a.T [(8,.sl d 0 (bz (ws.take i) cs).length 0),(48,.vsl 0 false (ws.map .str)),(49,.int .i64 ws.length),(50,.int .i64 (i:Int)),(2,.ptr 0 0),(4,.ptr 2 0)]∧a.H[0]? =some (.cells A false)∧a.H[2]? =some (.cells Z false)∧
    a.H[d]? =some (.cells ((bz (ws.take i) cs).map .str) true)∧a.D=[]∧i≤ws.length) (fun i=>ws.length - i) 0 ⟨3,⟨by rw[hp0];rfl,rfl,rfl,rfl,rfl,rfl,trivial⟩,rfl,rfl,by rw[hp0];rfl,rfl,Nat.zero_le _⟩ ?_
  rintro i ⟨T,M,D⟩ ⟨d,h1,h2,h3,h4,rfl,h5⟩;simp only at h1 h2 h3 h4 h5;refine W.bQ _ h1 (.vc (by decide) ?_);have l4:=(List.getElem?_eq_some_iff.1 h4).1;have hd0:d≠0:=by rintro rfl;injection(Option.some.inj (h4.symm.trans h2))with _ h;cases h
  have hd2:d≠2:=by rintro rfl;injection(Option.some.inj (h4.symm.trans h3))with _ h;cases h
  have hmi:=mv (ws.take i) cs;by_cases h:i<ws.length
  · obtain⟨s,hs,_⟩:=drop_at h
    have hstep:=uR (cs:=cs) hs;have hti:(ws.take i).length=i:=by simp;omega
    rw[hti]at hmi;generalize hp:bz (ws.take i) cs=p at hstep hmi h4 ⊢;have hiw: ∀H,ah Tryz.prog 25 (.vsl 0 false (ws.map .str)) (.int .i64 (i:Int)) H=some (.vptr [.str s]):=fun H=>dW (v:=.str s) (by simp[hs]) rfl H;have hes:=HN s (hwb s (List.mem_of_getElem? hs));by_cases hq:i<p.length
    · rw[if_pos hq]at hstep
      have hpl:(bz (ws.take (i+1)) cs).length=p.length:=by rw[hstep];simp
      have hia:=gY (d:=d) 0 p.length i hq;have hst:=pN (opn:=true) l4 (c:=p) hq (esc s);rw[jI h4]at hst
      repeat'(first|(simp(disch:=first|omega|(simp only[zL];omega))only[go_sem,seval,hln,hiw,hia,hst])|((with_reducible first|apply aj.pure|apply an.pure);(with_reducible exact hes);(first|rfl|simp only[go_sem])))
      refine⟨i+1,⟨d,⟨by rw[hpl];rfl,rfl,rfl,rfl,rfl,rfl,trivial⟩,?_,?_,?_,h⟩,by omega⟩
      · rw[eh,List.getElem?_set_ne hd0];exact h2
      · rw[eh,List.getElem?_set_ne hd2];exact h3
      · rw[jH l4,hstep]
    · rw[if_neg hq]at hstep
      have hpl:(bz (ws.take (i+1)) cs).length=p.length+1:=by rw[hstep];simp
      have hap:=sN M d p (.vsl 0 true [.str []]) [[]] h4 (fX M true [[]]) (by simp;omega) (by simp);obtain⟨M2,hM2⟩: ∃M2,M2=M.set d .dead++[.cells ((p++[[]]).map .str) true]:=⟨_,rfl⟩
      rw[←hM2]at hap;have l2:M.length<M2.length:=by rw[hM2];simp
      have g2:M2[M.length]? =some (.cells ((p++[[]]).map .str) true):=by rw[hM2];simp
      have gk: ∀j,j<M.length→j≠d→M2[j]? =M[j]? :=by
        intro j hj hjd;rw[hM2,List.getElem?_append_left (by simpa using hj),List.getElem?_set_ne (by omega)]
      have l0:=(List.getElem?_eq_some_iff.1 h2).1;have l20:=(List.getElem?_eq_some_iff.1 h3).1;have hia:=gY (d:=M.length) 0 (p.length+1) i (by omega);have hst:=pN (opn:=true) l2 (c:=p++[[]]) (i:=i) (by simp;omega) (esc s);rw[jI g2]at hst;simp only[List.length_cons,List.length_nil,Nat.zero_add]at hap
      repeat'(first|(simp(disch:=first|omega|(simp only[zL];omega))only[go_sem,seval,hln,hiw,kU,hap,hia,hst])|((with_reducible first|apply aj.pure|apply an.pure);(with_reducible exact hes);(first|rfl|simp only[go_sem])))
      refine⟨i+1,⟨M.length,⟨by rw[hpl];rfl,rfl,rfl,rfl,rfl,rfl,trivial⟩,?_,?_,?_,h⟩,by omega⟩
      · rw[eh,List.getElem?_set_ne (by omega),gk 0 l0 (by omega)];exact h2
      · rw[eh,List.getElem?_set_ne (by omega),gk 2 l20 (by omega)];exact h3
      · rw[jH l2,hstep]
  · have e:i=ws.length:=by omega
    subst e;rw[List.take_length]at h4 hmi ⊢;generalize hp:bz ws cs=p at h4 hmi hjv hev ⊢;have hle: ∀j,aX M [.sl d 0 p.length 0,.str [59]] (.ret (.str j))=some [.vsl 0 false (p.map .str),.str [59]]:=by
      intro j;refine dG rfl rfl ?_;have:=jJ (k:=19) h4 (Nat.le_refl _);rw[List.take_length]at this;simp only[List.mapM_cons,List.mapM_nil,this,cJ (show AV.hf (.str [59])=true from rfl)];rfl
    generalize hj:Lib.join p [59]=j at hjv ⊢;generalize hq:(p.flatten==[])=q at hev ⊢;have l0:=(List.getElem?_eq_some_iff.1 h2).1;obtain⟨M2,hM2⟩: ∃M2,M2=M.set 0 (.cells [.str g,.str nm,.vsl 3 x P,.str j,.vsl 0 true Fv,.bool b,.bool false,.str n] false):=⟨_,rfl⟩
    have g0:M2[0]? =some (.cells [.str g,.str nm,.vsl 3 x P,.str j,.vsl 0 true Fv,.bool b,.bool false,.str n] false):=by rw[hM2,List.getElem?_set_self l0]
    have g2:M2[2]? =some (.cells Z false):=by rw[hM2,List.getElem?_set_ne (by omega)];exact h3
    have gd:M2[d]? =some (.cells (p.map .str) true):=by rw[hM2,List.getElem?_set_ne (by omega)];exact h4
    have l2:=(List.getElem?_eq_some_iff.1 g2).1;have k1:aE Tryz.prog 9 (.ptr 0 3) (.str j) M=some M2:=by
      rw[st9];simp only[stC,h2,hA];simp[AV.cells,AV.isC,cm,hM2]
    have k2:al Tryz.prog 46 (.ptr 0 0) M2=some (.agg [.str g,.str nm,.vsl 3 x P,.str j]):=by
      simp[vZ,ldG,g0]
    have k3:aE Tryz.prog 46 (.ptr 2 0) (.agg [.str g,.str nm,.vsl 3 x P,.str j]) M2=some (M2.set 2 (.cells [.str g,.str nm,.vsl 3 x P,.str j] false)):=by
      rw[vY];simp only[stC,g2,hZ];simp[AV.cells,AV.isC,cm]
    have k4:al Tryz.prog 46 (.ptr 2 0) (M2.set 2 (.cells [.str g,.str nm,.vsl 3 x P,.str j] false))=some (.agg [.str g,.str nm,.vsl 3 x P,.str j]):=by
      simp[vZ,ldG,List.getElem?_set_self l2]
    have hle2:aX M2 [.sl d 0 p.length 0] (.ret (.bool q))=some [.vsl 0 false (p.map .str)]:=by
      refine dG rfl rfl ?_;have:=jJ (k:=19) gd (Nat.le_refl _);rw[List.take_length]at this;simp only[List.mapM_cons,List.mapM_nil,this];rfl
    have hle1:=hle j
    repeat'(first|(simp(disch:=first|omega|(simp only[zL];omega))only[go_sem,seval,k1])|(guard_target=~ aj _ _ _ _ _ _ _;refine aj.aX _ hjv hle1 ?_))
    refine W.aO [5] [false,false,false,false,false,true,false] [] mixed (by kernel_rfl) (by kernel_rfl) (by kernel_rfl) ?_
    repeat'(first|(simp(disch:=first|omega|(simp only[zL];omega))only[go_sem,seval,k2,k3])|(guard_target=~ an _ _ _ _ _ _ _;refine an.aX _ hev hle2 ?_))
    exact ud 4 46 5 rfl rfl k4 rfl (by simp[AV.hf,AV.hfs,hPh]) rfl
/-! ### Plain -/
def nz(s:Bytes):List Bytes:=if s=[]then []else [s]
def xsP(ls:List Ln)(f:Nat):List Bytes:=ls.flatMap fun l=>nz (aK l f)
def pS(acc:List Bytes)(l:Ln):List Bytes:=match aD (small l.n)with
 |some _=>if small l.n∈acc then acc else acc++[small l.n]
 |none=>acc
def cL(ls:List Ln):List Bytes:=ls.foldl pS []
def zG(ls:List Ln)(l:Ln):Bool:=match aD (small l.n)with
 |some k=>inB (small l.n) (cL ls)&& !k.many
 |none=>false
def okP(ls:List Ln)(i:Nat):Bool:=match ls[i]? with
 |some l=>!(zG (ls.take i) l)
 |none=>true
theorem mw{ls:List Ln}{i:Nat}{l:Ln}(h:ls[i]? =some l)(f:Nat):xsP (ls.take (i+1)) f=xsP (ls.take i) f++nz (aK l f):=by
 rw[List.take_add_one,h,xsP,List.flatMap_append];simp[xsP]
theorem pT{ls:List Ln}{i:Nat}{l:Ln}(h:ls[i]? =some l):cL (ls.take (i+1))=pS (cL (ls.take i)) l:=by
 rw[List.take_add_one,h,cL,List.foldl_append];rfl
theorem wR(s:Bytes):(nz s).length≤1:=by unfold nz;split<;>simp
theorem oj(ls:List Ln)(f:Nat):(xsP ls f).length≤ls.length:=by
 induction ls with
 |nil=>simp[xsP]
 |cons l ls ih=>have:=wR (aK l f);simp only[xsP,List.flatMap_cons,List.length_append,List.length_cons]at ih ⊢;omega
def kC(xs:Nat→List Bytes)(l:Ln)(fs:List Nat):Nat→List Bytes:=fun f=>if f∈fs then xs f++nz (aK l f)else xs f
theorem B9(xs:Nat→List Bytes)(l:Ln):kC xs l []=xs:=by funext f;simp[kC]
theorem Ca{l:Ln}{k:Kd}(h:aD (small l.n)=some k)(xs:Nat→List Bytes):kC xs l k.fs=fun f=>xs f++nz (aK l f):=by
 funext f;unfold kC;by_cases hf:f∈k.fs
 ·rw[if_pos hf]
 ·rw[if_neg hf,pz h hf];simp[nz]
theorem gH{n:Bytes}{k:Kd}(h:aD n=some k):k.fs.length≤2∧(∀f∈k.fs,f<8)∧k.fs.Nodup∧k.fs≠ []∧(k.many=true→∃f,k.fs=[f]∧6≤f):=by
 have hk:=kn n;rw[h]at hk;cases hk<;>exact⟨by decide,by decide,by decide,by decide,by first|(intro h;cases h;done)|exact fun _=>⟨_,rfl,by decide⟩⟩
theorem zH{xs:Nat→List Bytes}{l:Ln}{fs:List Nat}{j f:Nat}(hn:fs.Nodup)(hj:fs[j]? =some f):kC xs l (fs.take (j+1))=kB (kC xs l (fs.take j)) f (kC xs l (fs.take j) f++nz (aK l f)):=by
 have hnot:f∉fs.take j:=by
  intro hm;obtain⟨i,hi⟩:=List.getElem?_of_mem hm;have hij:i<j:=by have:=(List.getElem?_eq_some_iff.1 hi).1;simp at this;omega
  rw[List.getElem?_take_of_lt hij]at hi;have hl:=(List.getElem?_eq_some_iff.1 hj).1;have hil:=(List.getElem?_eq_some_iff.1 hi).1;have e1:=(List.getElem?_eq_some_iff.1 hi).2;have e2:=(List.getElem?_eq_some_iff.1 hj).2;exact List.pairwise_iff_getElem.1 hn i j hil hl hij (e1.trans e2.symm)
 have e:fs.take (j+1)=fs.take j++[f]:=by rw[List.take_add_one,hj];rfl
 funext g;unfold kB kC;rw[e];by_cases hg:g=f
 ·subst hg
  simp[hnot]
 ·rw[if_neg hg]
  simp[hg]
theorem rl(xs:Nat→List Bytes)(f:Nat):kB xs f (xs f)=xs:=by
 funext g;unfold kB;split
 ·rename_i h;rw[h]
 ·rfl
/-! ### A map of names -/
theorem Cb(n:Bytes):∀(ks:List Bytes) (i:Nat),(n∉ks∧fB .string (.str n) (ks.map .str) i=some none)∨∃j,ks[j]? =some n∧fB .string (.str n) (ks.map .str) i=some (some (i+j))
 | [],i=>.inl ⟨by simp,rfl⟩
 | k::ks,i=>by
  rw[List.map_cons,fB,jq];cases h:(n==k)with
  |true=>
   have e:n=k:=by simpa using h
   exact .inr ⟨0,by simp[e],rfl⟩
  |false=>
   have e:n≠k:=by simpa using h
   rcases Cb n ks (i+1)with⟨h1,h2⟩|⟨j,h1,h2⟩
   ·exact .inl ⟨by simp[e,h1],h2⟩
   ·exact .inr ⟨j+1,by simpa using h1,by simp only[h2];congr 2;omega⟩
def my(ks:List Bytes):OB:=.map (ks.map .str) (List.replicate ks.length (.bool true))
theorem kj{H:List OB}{id:Nat}{ks:List Bytes}(h:H[id]? =some (my ks))(n:Bytes):di Tryz.prog 60 (.map id) (.str n) false H=some (.bool (inB n ks)):=by
 have hz:bZ Tryz.prog 4=some (.bool false):=by kernel_rfl
 simp only[di,Tryz.underlying60,Tryz.underlying9,hz,oD,if_true,h,my];rcases Cb n ks 0 with⟨h1,h2⟩|⟨j,h1,h2⟩
 ·rw[h2]
  have:inB n ks=false:=by rw[Bool.eq_false_iff];exact fun e=>h1 (cR.1 e)
  simp[this]
 ·rw[h2,Nat.zero_add]
  have hj:=(List.getElem?_eq_some_iff.1 h1).1;have:inB n ks=true:=cR.2 (List.mem_of_getElem? h1);simp[this,hj]
theorem uS{H:List OB}{id:Nat}{ks:List Bytes}(h:H[id]? =some (my ks))(n:Bytes):eZ Tryz.prog 60 (.map id) (.str n) (.bool true) H=some (H.set id (my (if n∈ks then ks else ks++[n]))):=by
 simp only[eZ,Tryz.underlying60,Tryz.underlying9,oD,if_true,h,my];rcases Cb n ks 0 with⟨h1,h2⟩|⟨j,h1,h2⟩
 ·rw[h2,if_neg h1]
  simp[List.replicate_succ']
 ·rw[h2,Nat.zero_add,if_pos (List.mem_of_getElem? h1)]
  have:(List.replicate ks.length (AV.bool true)).set j (.bool true)=List.replicate ks.length (.bool true):=by
   apply List.ext_getElem?;intro i;rw[List.getElem?_set];split
   ·rename_i e
    subst e;split<;>simp_all
   ·rfl
  simp only[this]
/-! ### A round -/
noncomputable def asO:Code:=match Tryz.f15.body with
 |some (.seq _ (.scope (.seq _ (.seq _ (.seq (.seq _ (.block _ (.rangeFunc _ _ a _))) _)))))=>a
 |_=>.skip
noncomputable def bdO:Code:=match Tryz.f15.body with
 |some (.seq _ (.scope (.seq _ (.seq _ (.seq (.seq _ (.block _ (.rangeFunc _ _ _ b))) _)))))=>b
 |_=>.skip
noncomputable def lkO:cN:=⟨89,#[18,19],asO,bdO,.ready,none⟩
noncomputable def kbO:cN:=⟨89,#[18,19],asO,bdO,.busy,none⟩
noncomputable def kgO:cN:=⟨89,#[18,19],asO,bdO,.done,some (.goto 0)⟩
def jO(ls:List Ln)(i:Nat)(K:List OB):Prop:=
 (∃vs,bE K 1 vs (xsP (ls.take i)))∧K[2]? =some (my (cL (ls.take i)))∧K[3]? =some (.cells [.map 2] false)∧K[4]? =some .dfr∧∃T,K[5]? =some (.loop T lkO)∧aB T [(2,.ptr 1 0),(4,.ptr 3 0)]
def bO(K:List OB):Prop:=(∃vs xs,bE K 1 vs xs)∧K[4]? =some .dfr∧∃T,K[5]? =some (.loop T kgO)
theorem EM{ls:List Ln}{i:Nat}{K:List OB}(M:List OB)(h:jO ls i K):jO ls i (K++M):=by
 obtain⟨⟨vs,h1⟩,h2,h3,h4,T,h5,h6⟩:=h;exact⟨⟨vs,h1.more M⟩,aV h2,aV h3,aV h4,T,aV h5,h6⟩
noncomputable def nL(l:Ln)(p:List OB×List AV)(f:Nat):List OB×List AV:=
 if aK l f=[]then p else match aG Tryz.prog 25 25 (deN (p.2[f]?.getD .junk)) (.vsl 0 true [.str (aK l f)]) p.1 with
  |some (v,M)=>(M.set 1 (.cells (p.2.set f v) false),p.2.set f v)
  |none=>p
noncomputable def qC(l:Ln)(p:List OB×List AV)(fs:List Nat):List OB×List AV:=fs.foldl (nL l) p
def nM(H K:List OB):Prop:=H.length≤K.length∧∀i o,i≠1→H[i]? =some o→(∀cs,o≠ .cells cs true)→K[i]? =some o
theorem nM.refl(H:List OB):nM H H:=⟨Nat.le_refl _,fun _ _ _ h _=>h⟩
theorem nM.trans{A B C:List OB}(h:nM A B)(k:nM B C):nM A C:=⟨Nat.le_trans h.1 k.1,fun i o hi ho hn=>k.2 i o hi (h.2 i o hi ho hn) hn⟩
theorem Cc{l:Ln}{p:List OB×List AV}{xs:Nat→List Bytes}{f:Nat}(h:bE p.1 1 p.2 xs)(hf:f<8)(hx:(xs f).length<1000000):
    bE (nL l p f).1 1 (nL l p f).2 (kB xs f (xs f++nz (aK l f)))∧nM p.1 (nL l p f).1:=by
  unfold nL nz;by_cases hs:aK l f=[]
  · rw[if_pos hs,if_pos hs,List.append_nil,rl]
    exact⟨h,.refl _⟩
  · rw[if_neg hs,if_neg hs]
    obtain⟨v,M,hv,_,hap,_,hc,hl,hk⟩:=h.app hf (aK l f) hx;rw[hv,Option.getD_some,hap];refine⟨hc,by simp;omega,fun i o hi ho hn=> ?_⟩;simp only;rw[List.getElem?_set_ne (by omega),hk i (List.getElem?_eq_some_iff.1 ho).1 (h.free ho hn)];exact ho
theorem rm(l:Ln)(p:List OB×List AV){fs:List Nat}{j f:Nat}(hj:fs[j]? =some f):qC l p (fs.take (j+1))=nL l (qC l p (fs.take j)) f:=by
 unfold qC;rw[List.take_add_one,hj,List.foldl_append];simp only[Option.toList_some,List.foldl_cons,List.foldl_nil]
theorem yq{l:Ln}{p:List OB×List AV}{xs:Nat→List Bytes}{fs:List Nat}(hn:fs.Nodup)(hf: ∀f∈fs,f<8)(h:bE p.1 1 p.2 xs)(hx: ∀f,(xs f).length<999999): ∀j,j≤fs.length→
    bE (qC l p (fs.take j)).1 1 (qC l p (fs.take j)).2 (kC xs l (fs.take j))∧nM p.1 (qC l p (fs.take j)).1
  |0,_=>by rw[List.take_zero,B9];exact⟨h,.refl _⟩
  | j +1,hj=>by
    obtain⟨ih1,ih2⟩:=yq hn hf h hx j (by omega);obtain⟨f,hf1⟩: ∃f,fs[j]? =some f:=⟨_,List.getElem?_eq_getElem (by omega)⟩
    have hb:(kC xs l (fs.take j) f).length<1000000:=by
      have:=hx f;have:=wR (aK l f);unfold kC;split
      · rw[List.length_append];omega
      · omega
    obtain⟨q1,q2⟩:=Cc (l:=l) ih1 (hf f (List.mem_of_getElem? hf1)) hb;rw[rm l p hf1,zH hn hf1];exact⟨q1,ih2.trans q2⟩
theorem mz(k:Kd):kdL (some k)=[fsV k,.bool k.parts,.bool k.many]:=rfl
set_option maxRecDepth 8000 in
theorem zI(ls:List Ln)(i:Nat)(l:Ln)(K:List OB)(hl:ls[i]? =some l)(hk:aD (small l.n)=none)(hJ:jO ls i K):
    ∃K',YFn Tryz.prog 5 [dq l,.bool false] K (.ret (.bool true)) K'∧jO ls (i+1) K':=by
  obtain⟨⟨vs,h1⟩,h2,h3,h4,T,h5,h6⟩:=hJ;have l5:=(List.getElem?_eq_some_iff.1 h5).1;have hx:xsP (ls.take (i+1))=xsP (ls.take i):=by funext f;rw[mw hl,rb hk];simp[nz]
  have hs:cL (ls.take (i+1))=cL (ls.take i):=by rw[pT hl,pS,hk]
  obtain⟨S,hS⟩: ∃S:List AV,S=[.str l.g,.str l.n,.vsl 3 l.x (l.ps.map aH),.str l.v,.nilsl,.bool false,.bool false,.str (small l.n)]:=⟨_,rfl⟩
  have hsd:dq l=.agg S:=by rw[dq,hk,hS];rfl
  have hSc:(AV.agg S).cells=S:=by rw[hS];rfl
  obtain⟨M,hM⟩: ∃M,M=(K++[OB.cells S false]).set 5 (.loop T kbO):=⟨_,rfl⟩
  have gM5:M[5]? =some (.loop T kbO):=by rw[hM,List.getElem?_set_self (by simp;omega)]
  refine⟨M.set 5 (.loop T lkO),?_,?_⟩
  · refine YFn.of h5 (by simp[lkO]) fun l'=> ?_
    show W Tryz.prog 89 _ _ (.seq (.region 5 _ _) (.region 6 _ _)) _ ⟨(19,.bool false)::(18,dq l)::T,K,[]⟩;have hst:aE Tryz.prog 68 (.ptr K.length 0) (.agg S) (K++[.cells [.str [],.str [],.nilsl,.str [],.nilsl,.bool false,.bool false,.str []] false])=some (K++[.cells S false]):=by
      rw[Gr];simp only[stC,List.getElem?_concat_length,hSc];rw[if_pos ⟨by rw[hS];rfl,by simp,by rw[hS];rfl⟩,hS];simp[cm]
    rw[hsd];refine .vc (by decide) ?_
    repeat'(first|(simp(disch:=first|omega|(simp only[zL];omega))only[go_sem,seval,hst]))
    refine⟨T,lkO,aV h5,rfl,?_⟩;rw[show({lkO with st:=.busy}:cN)=kbO from rfl];show W Tryz.prog 89 _ _ (.block 1 (.seq (.seq (.region 7 _ _) _) _)) _ ⟨_,(K++[OB.cells S false]).set 5 _,_⟩;rw[←hM];refine .vc (by decide) ?_
    repeat'(first|(simp(disch:=first|omega|(simp only[zL];omega))only[go_sem,seval]))
    exact⟨T,kbO,gM5,rfl,rfl⟩
  · have g: ∀j o,j≠5→K[j]? =some o→(M.set 5 (.loop T lkO))[j]? =some o:=by
      intro j o hj ho;rw[List.getElem?_set_ne (by omega),hM,List.getElem?_set_ne (by omega)];exact aV ho
    refine⟨⟨vs,?_⟩,by rw[hs];exact g 2 _ (by omega) h2,g 3 _ (by omega) h3,g 4 _ (by omega) h4,T,?_,h6⟩
    · rw[hx,hM]
      have hfr:=h1.free h5 (fun cs e=>by cases e);exact((h1.more [OB.cells S false]).set _ (by omega) hfr).set _ (by omega) hfr
    · rw[List.getElem?_set_self (by rw[hM];simp;omega)]
theorem HO{ls:List Ln}{i:Nat}{l:Ln}{k:Kd}(hl:ls[i]? =some l)(hk:aD (small l.n)=some k):cL (ls.take (i+1))=if small l.n∈cL (ls.take i)then cL (ls.take i)else cL (ls.take i)++[small l.n]:=by
 rw[pT hl,pS,hk]
theorem sV{K:List OB}{S:List AV}(h:S.length=8)(hc:S.all AV.isC=true)(hS:(AV.agg S).cells=S):aE Tryz.prog 68 (.ptr K.length 0) (.agg S) (K++[.cells [.str [],.str [],.nilsl,.str [],.nilsl,.bool false,.bool false,.str []] false])=some (K++[.cells S false]):=by
 rw[Gr];simp only[stC,List.getElem?_concat_length,hS];rw[if_pos ⟨h,by simp,hc⟩,lV _ _ _ (by simp[h])];simp
set_option maxRecDepth 8000 in
theorem wS(ls:List Ln)(i:Nat)(l:Ln)(k:Kd)(K:List OB)(hl:ls[i]? =some l)(hk:aD (small l.n)=some k)(hb:inB (small l.n) (cL (ls.take i))=true)(hm:k.many=false)(hJ:jO ls i K):
    ∃K',YFn Tryz.prog 5 [dq l,.bool true] K (.ret (.bool false)) K'∧bO K':=by
  obtain⟨⟨vs,h1⟩,h2,h3,h4,T,h5,h6⟩:=hJ;have l5:=(List.getElem?_eq_some_iff.1 h5).1;obtain⟨S,hS⟩: ∃S:List AV,S=[.str l.g,.str l.n,.vsl 3 l.x (l.ps.map aH),.str l.v,fsV k,.bool k.parts,.bool false,.str (small l.n)]:=⟨_,rfl⟩
  have hsd:dq l=.agg S:=by rw[dq,hk,hS,mz,hm];rfl
  have hSc:(AV.agg S).cells=S:=by rw[hS];rfl
  obtain⟨M,hM⟩: ∃M,M=(K++[OB.cells S false]).set 5 (.loop T kbO):=⟨_,rfl⟩
  have gM5:M[5]? =some (.loop T kbO):=by rw[hM,List.getElem?_set_self (by simp;omega)]
  have g: ∀j o,j≠5→K[j]? =some o→M[j]? =some o:=by
    intro j o hj ho;rw[hM,List.getElem?_set_ne (by omega)];exact aV ho
  have gS:M[K.length]? =some (.cells S false):=by rw[hM,List.getElem?_set_ne (by omega),List.getElem?_concat_length]
  refine⟨M.set 5 (.loop T kgO),?_,?_⟩
  · refine YFn.of h5 (by simp[lkO]) fun l'=> ?_
    show W Tryz.prog 89 _ _ (.seq (.region 5 _ _) (.region 6 _ _)) _ ⟨(19,.bool true)::(18,dq l)::T,K,[]⟩;have hst:=sV (K:=K) (S:=S) (by rw[hS];rfl) (by rw[hS];rfl) hSc;rw[hsd];refine .vc (by decide) ?_
    repeat'(first|(simp(disch:=first|omega|(simp only[zL];omega))only[go_sem,seval,hst]))
    refine⟨T,lkO,aV h5,rfl,?_⟩;rw[show({lkO with st:=.busy}:cN)=kbO from rfl];show W Tryz.prog 89 _ _ (.block 1 (.seq (.seq (.region 7 _ _) _) _)) _ ⟨(6,.bool true)::(5,.ptr K.length 0)::(19,.bool true)::(18,.agg S)::T,(K++[OB.cells S false]).set 5 _,_⟩;rw[←hM];obtain⟨e2,e4,_⟩:=h6;refine W.bQ [(6,.bool true),(5,.ptr K.length 0),(2,.ptr 1 0),(4,.ptr 3 0)] ⟨rfl,rfl,by simpa[Av.get]using e2,by simpa[Av.get]using e4,trivial⟩ ?_;have k1:al Tryz.prog 60 (.ptr 3 0) M=some (.map 2):=by simp[zb,ldC,g 3 _ (by omega) h3]
    have k2:al Tryz.prog 9 (.ptr K.length 7) M=some (.str (small l.n)):=by simp[ld9,ldC,gS,hS]
    have k3:=kj (g 2 _ (by omega) h2) (small l.n);rw[hb]at k3;have k4:al Tryz.prog 4 (.ptr K.length 6) M=some (.bool false):=by simp[ld4,ldC,gS,hS]
    refine .vc (by decide) ?_
    repeat'(first|(simp(disch:=first|omega|(simp only[zL];omega))only[go_sem,seval,k1,k2,k3,k4]))
    exact⟨T,kbO,gM5,rfl,rfl⟩
  · have hfr:=h1.free h5 (fun cs e=>by cases e)
    refine⟨⟨vs,xsP (ls.take i),?_⟩,?_,T,by rw[List.getElem?_set_self (by rw[hM];simp;omega)]⟩
    · rw[hM]
      exact((h1.more [OB.cells S false]).set _ (by omega) hfr).set _ (by omega) hfr
    · rw[List.getElem?_set_ne (by omega)];exact g 4 _ (by omega) h4
set_option maxRecDepth 8000 in
theorem wT (ls:List Ln) (i:Nat) (l:Ln) (k:Kd) (K:List OB) (hl:ls[i]? =some l) (hi:i<900000) (hv:l.v.length≤1000000) (hk:aD (small l.n)=some k) (hb:(inB (small l.n) (cL (ls.take i))&& !k.many)=false) (hJ:jO ls i K):
    ∃K',YFn Tryz.prog 5 [dq l,.bool true] K (.ret (.bool true)) K'∧jO ls (i+1) K':=by
  obtain⟨⟨vs,h1⟩,h2,h3,h4,T,h5,h6⟩:=hJ;obtain⟨kl,kf,kn1,_,_⟩:=gH hk;have l5:=(List.getElem?_eq_some_iff.1 h5).1;obtain⟨S,hS⟩: ∃S:List AV,S=[.str l.g,.str l.n,.vsl 3 l.x (l.ps.map aH),.str l.v,fsV k,.bool k.parts,.bool k.many,.str (small l.n)]:=⟨_,rfl⟩
  have hsd:dq l=.agg S:=by rw[dq,hk,hS,mz];rfl
  have hSc:(AV.agg S).cells=S:=by rw[hS];rfl
  have hSe:AV.agg S=encS l k (small l.n):=by rw[hS];rfl
  have hFh:AV.hfs (k.fs.map fun f:Nat=>AV.int .i64 (f:Int))=true:=by rw[be,List.all_eq_true];intro v hv;obtain⟨l,_,rfl⟩:=List.mem_map.1 hv;rfl
  have hSh:AV.hfs S=true:=by rw[hS];simp only[AV.hfs,AV.hf,az,fsV,hFh,Bool.and_self,Bool.and_true,Bool.true_and]
  obtain⟨M,hM⟩: ∃M,M=(K++[OB.cells S false]).set 5 (.loop T kbO):=⟨_,rfl⟩
  have lM:M.length=K.length+1:=by rw[hM];simp
  have gM5:M[5]? =some (.loop T kbO):=by rw[hM,List.getElem?_set_self (by simp;omega)]
  have g: ∀j o,j≠5→K[j]? =some o→M[j]? =some o:=by
    intro j o hj ho;rw[hM,List.getElem?_set_ne (by omega)];exact aV ho
  have gS:M[K.length]? =some (.cells S false):=by rw[hM,List.getElem?_set_ne (by omega),List.getElem?_concat_length]
  have hfr5:=h1.free h5 (fun cs e=>by cases e);have hfr2:=h1.free h2 (fun cs e=>by cases e);obtain⟨M2,hM2⟩: ∃M2,M2=M.set 2 (my (cL (ls.take (i+1)))):=⟨_,rfl⟩
  have hc2:bE M2 1 vs (xsP (ls.take i)):=by
    rw[hM2,hM];exact((h1.more [OB.cells S false]).set _ (by omega) hfr5).set _ (by omega) hfr2
  have g2: ∀j o,j≠2→M[j]? =some o→M2[j]? =some o:=by
    intro j o hj ho;rw[hM2,List.getElem?_set_ne (by omega)];exact ho
  have hxl: ∀f,(xsP (ls.take i) f).length<999999:=by
    intro f;have:=oj (ls.take i) f;simp at this;omega
  have hrun:=yq (l:=l) (p:=(M2,vs)) (fs:=k.fs) kn1 kf hc2 hxl;obtain⟨M3,hM3⟩: ∃M3,M3=(qC l (M2,vs) k.fs).1:=⟨_,rfl⟩
  have hend:=hrun k.fs.length (Nat.le_refl _);rw[List.take_length,←hM3,Ca hk]at hend;have gk: ∀j o,j≠1→(∀cs,o≠ .cells cs true)→M2[j]? =some o→M3[j]? =some o:=fun j o hj hn ho=>hend.2.2 j o hj ho hn;have gM35:M3[5]? =some (.loop T kbO):=gk 5 _ (by omega) (fun cs e=>by cases e) (g2 5 _ (by omega) gM5);have l35:=(List.getElem?_eq_some_iff.1 gM35).1;refine⟨M3.set 5 (.loop T lkO),?_,?_⟩
  · refine YFn.of h5 (by simp[lkO]) fun l'=> ?_
    show W Tryz.prog 89 _ _ (.seq (.region 5 _ _) (.region 6 _ _)) _ ⟨(19,.bool true)::(18,dq l)::T,K,[]⟩;have hst:=sV (K:=K) (S:=S) (by rw[hS];rfl) (by rw[hS];rfl) hSc;rw[hsd];refine .vc (by decide) ?_
    repeat'(first|(simp(disch:=first|omega|(simp only[zL];omega))only[go_sem,seval,hst]))
    refine⟨T,lkO,aV h5,rfl,?_⟩;rw[show({lkO with st:=.busy}:cN)=kbO from rfl];show W Tryz.prog 89 _ _ (.block 1 (.seq (.seq (.region 7 _ _) _) _)) _ ⟨(6,.bool true)::(5,.ptr K.length 0)::(19,.bool true)::(18,.agg S)::T,(K++[OB.cells S false]).set 5 _,_⟩;rw[←hM];obtain⟨e2,e4,_⟩:=h6;refine W.bQ [(6,.bool true),(5,.ptr K.length 0),(2,.ptr 1 0),(4,.ptr 3 0)] ⟨rfl,rfl,by simpa[Av.get]using e2,by simpa[Av.get]using e4,trivial⟩ ?_;have k1:al Tryz.prog 60 (.ptr 3 0) M=some (.map 2):=by simp[zb,ldC,g 3 _ (by omega) h3]
    have k2:al Tryz.prog 9 (.ptr K.length 7) M=some (.str (small l.n)):=by simp[ld9,ldC,gS,hS]
    have k3:=kj (g 2 _ (by omega) h2) (small l.n);have k4:al Tryz.prog 4 (.ptr K.length 6) M=some (.bool k.many):=by simp[ld4,ldC,gS,hS]
    have k5:=uS (g 2 _ (by omega) h2) (small l.n);rw[←HO hl hk,←hM2]at k5;have k6:al Tryz.prog 68 (.ptr K.length 0) M2=some (.agg S):=by
      simp[Gs,ldG,g2 _ _ (by omega) gS,hS]
    have k7:=mq l k (small l.n) hv (by omega);rw[←hSe]at k7;have hvl:(ba k l.v).length=k.fs.length:=by simp[ba]
    have k8: ∀M,aI Tryz.prog 25 (.vsl 0 false ((ba k l.v).map .str)) M=some (.int .i64 k.fs.length):=by intro M;simp[aI,Tryz.underlying25,hvl]
    generalize hq:inB (small l.n) (cL (ls.take i))=q at hb k3;generalize hr:k.many=r at hb k4;refine .block ?_;refine .seq (.vc (by decide) ?_)
    repeat'(first|(simp(disch:=first|omega|(simp only[zL];omega))only[go_sem,seval]))
    refine W.oP [(5,.ptr K.length 0),(2,.ptr 1 0),(4,.ptr 3 0)] M (.vc (by decide) ?_) ?_
    · cases q with
      | false=>
        repeat'(first|(simp(disch:=first|omega|(simp only[zL];omega))only[go_sem,seval,k1,k2,k3,k4]))
        exact⟨rfl,rfl,rfl,trivial⟩
      | true=>
        have hr1:r=true:=by simpa using hb
        subst hr1
        repeat'(first|(simp(disch:=first|omega|(simp only[zL];omega))only[go_sem,seval,k1,k2,k3,k4]))
        exact⟨rfl,rfl,rfl,trivial⟩
    refine .vc (by decide) ?_
    repeat'(first|(simp(disch:=first|omega|(simp only[zL];omega))only[go_sem,seval,k1,k2,k5,k6,k8])|((with_reducible first|apply aj.pure|apply an.pure);(with_reducible exact k7);(first|rfl|simp only[go_sem,hSh])))
    refine W.bh (X:=Nat) (fun j=>[(38,.int .i64 (j:Int)),(37,.int .i64 k.fs.length),(36,.vsl 0 false ((ba k l.v).map .str)),(5,.ptr K.length 0),(2,.ptr 1 0)]) (fun j=>(qC l (M2,vs) (k.fs.take j)).1) (fun j=>j≤k.fs.length) (fun j=>k.fs.length - j) 0 (Nat.zero_le _) ⟨rfl,rfl,rfl,rfl,rfl,trivial⟩ (by rw[List.take_zero];rfl) ?_;intro j hj;have hlK:5<K.length:=l5;obtain⟨hcj,hkj⟩:=hrun j hj;by_cases h:j<k.fs.length
    · obtain⟨f,hf,_⟩:=drop_at h
      have hf8:=kf f (List.mem_of_getElem? hf);have hsy:=dw hk hf;have hsucc:=rm l (M2,vs) hf;generalize hp:qC l (M2,vs) (k.fs.take j)=p at hcj hkj hsucc ⊢;generalize hs0:aK l f=s at hsy;have hia1: ∀X,ah Tryz.prog 25 (.vsl 0 false ((ba k l.v).map .str)) (.int .i64 (j:Int)) X=some (.vptr [.str s]):=fun X=>dW (v:=.str s) (by simp[hsy]) rfl X;by_cases hs:s=[]
      · have hsb:(s==([]:Bytes))=true:=by simp[hs]
        unfold nL at hsucc;rw[if_pos (by rw[hs0];exact hs)]at hsucc;refine .vc (by decide) ?_
        repeat'(first|(simp(disch:=first|omega|(simp only[zL];omega))only[go_sem,seval,hia1,hsb]))
        exact⟨j+1,h,by omega,⟨rfl,rfl,rfl,rfl,rfl,trivial⟩,by rw[hsucc]⟩
      · have hsb:(s==([]:Bytes))=false:=by simp[hs]
        have hxb:(kC (xsP (ls.take i)) l (k.fs.take j) f).length<1000000:=by
          have:=hxl f;have:=wR (aK l f);unfold kC;split
          · rw[List.length_append];omega
          · omega
        obtain⟨v,M',hv',hld,hap,hstv,hcon,hlen,hkeep⟩:=hcj.app hf8 s hxb;unfold nL at hsucc;rw[if_neg (by rw[hs0];exact hs),hs0,hv',Option.getD_some,hap]at hsucc;simp only at hsucc;have gp:p.1[K.length]? =some (.cells S false):=hkj.2 _ _ (by omega) (g2 _ _ (by omega) gS) (fun cs e=>by cases e);have gM':M'[K.length]? =some (.cells S false):=by
          rw[hkeep _ (List.getElem?_eq_some_iff.1 gp).1 (hcj.free gp (fun cs e=>by cases e))];exact gp
        have hlf: ∀X:List OB,X[K.length]? =some (.cells S false)→al Tryz.prog 64 (.ptr K.length 4) X=some (fsV k):=by
          intro X hX;simp[Gj,ldC,hX,hS]
        have hl1:=hlf _ gp;have hl2:=hlf _ gM';have hi1: ∀X,ah Tryz.prog 64 (fsV k) (.int .i64 (j:Int)) X=some (.vptr [.int .i64 (f:Int)]):=fun X=>zk (v:=.int .i64 (f:Int)) (by simp[hf]) rfl X;have hic:=eG 1 f hf8;generalize fsV k=Fk at hl1 hl2 hi1;have hde:deN (AV.sl p.1.length 0 ((kC (xsP (ls.take i)) l (k.fs.take j) f).length+1) 0)=.sl p.1.length 0 ((kC (xsP (ls.take i)) l (k.fs.take j) f).length+1) 0:=rfl;generalize(AV.sl p.1.length 0 ((kC (xsP (ls.take i)) l (k.fs.take j) f).length+1) 0)=v2 at hap hstv hsucc hcon hde;refine .vc (by decide) ?_
        repeat'(first|(simp(disch:=first|omega|(simp only[zL];omega))only[go_sem,seval,hia1,hsb]))
        refine W.aO [16,18] [false,false,false,false,false,false,false,false,false,false,false,false,false,false,false,false,true,false,true] [(2,17),(4,17),(5,17)] mixed (by kernel_rfl) (by kernel_rfl) (by kernel_rfl) ?_
        repeat'(first|(simp(disch:=first|omega|(simp only[zL];omega))only[go_sem,seval,kU,hl1,hl2,hi1,hic,hld,hap,hstv,hde]))
        exact⟨j+1,h,by omega,⟨rfl,rfl,rfl,rfl,rfl,trivial⟩,by rw[hsucc]⟩
    · have e:j=k.fs.length:=by omega
      subst e;rw[List.take_length,←hM3];refine .vc (by decide) ?_
      repeat'(first|(simp(disch:=first|omega|(simp only[zL];omega))only[go_sem,seval]))
      exact⟨T,kbO,gM35,rfl,rfl⟩
  · have g3: ∀j o,j≠1→j≠2→j≠5→(∀cs,o≠ .cells cs true)→K[j]? =some o→(M3.set 5 (.loop T lkO))[j]? =some o:=by
      intro j o h1 h2 h5 hn ho;rw[List.getElem?_set_ne (by omega)];exact gk j o h1 hn (g2 j o h2 (g j o h5 ho))
    refine⟨⟨(qC l (M2,vs) k.fs).2,?_⟩,?_,g3 3 _ (by omega) (by omega) (by omega) (fun cs e=>by cases e) h3,g3 4 _ (by omega) (by omega) (by omega) (fun cs e=>by cases e) h4,T,by rw[List.getElem?_set_self l35],h6⟩
    · have hx:xsP (ls.take (i+1))=fun f=>xsP (ls.take i) f++nz (aK l f):=by funext f;exact mw hl f
      rw[hx];exact hend.1.set _ (by omega) (hend.1.free gM35 (fun cs e=>by cases e))
    · rw[List.getElem?_set_ne (by omega)]
      refine gk 2 _ (by omega) (fun cs e=>by cases e) ?_;rw[hM2,List.getElem?_set_self (by have:=(List.getElem?_eq_some_iff.1 h2).1;omega)]
def xsO(ls:List Ln)(i f:Nat):List Bytes:=if 6≤f∧f<6+i then sG (xsP ls f)else xsP ls f
def xO(ls:List Ln):Nat→List Bytes:=xsO ls 2
def pU:Nat→List Bytes:=fun _=>[]
def ofP(c:Cd):(Nat→List Bytes)×Nat:=
 if aL c=0 then(if(List.range c.ls.length).all (okP c.ls)&&(inB nFN (cL c.ls)&&br (xO c.ls))then(xO c.ls,0)else(pU,270))else(pU,2)
theorem ey{c:Cd}(h:aL c=0):c.ls.length≤100∧∀l∈c.ls,l.v.length≤4000∧l.n.length≤64:=by
 have hr:bU c=true:=by
  unfold aL at h;split at h
  ·assumption
  ·cases h
 unfold bU at hr;simp only[Bool.and_eq_true,decide_eq_true_eq,List.all_eq_true]at hr;refine⟨hr.1.2,fun l hl=>?_⟩;have:=hr.2 l hl;simp only[cf,Bool.and_eq_true,decide_eq_true_eq]at this;have hn:=iU this.2.1;refine⟨by have:=this.2.2.2.2.2.2.2.1;omega,by have:=hn.2;rw[show(small l.n).length=l.n.length from by simp[small]]at this;exact this⟩
theorem HP(ls:List Ln)(hn:ls.length≤100)(hv: ∀l∈ls,l.v.length≤4000)(i:Nat)(l:Ln)(K:List OB)(hl:ls[i]? =some l)(hJ:jO ls i K):
    ∃K',(okP ls i=true∧YFn Tryz.prog 5 [dq l,.bool (aD (small l.n)).isSome] K (.ret (.bool true)) K'∧jO ls (i+1) K')∨(okP ls i=false∧YFn Tryz.prog 5 [dq l,.bool (aD (small l.n)).isSome] K (.ret (.bool false)) K'∧bO K'):=by
  have hi:=(List.getElem?_eq_some_iff.1 hl).1;have hvl:=hv l (List.mem_of_getElem? hl);cases hk:aD (small l.n)with
  | none=>
    obtain⟨K',h1,h2⟩:=zI ls i l K hl hk hJ;exact⟨K',.inl ⟨by simp[okP,hl,zG,hk],h1,h2⟩⟩
  | some k=>
    have e:okP ls i= !(inB (small l.n) (cL (ls.take i))&& !k.many):=by simp[okP,hl,zG,hk]
    cases hb:(inB (small l.n) (cL (ls.take i))&& !k.many)with
    | false=>
      obtain⟨K',h1,h2⟩:=wT ls i l k K hl (by omega) (by omega) hk hb hJ;exact⟨K',.inl ⟨by rw[e,hb];rfl,h1,h2⟩⟩
    | true=>
      simp only[Bool.and_eq_true,Bool.not_eq_true']at hb;obtain⟨K',h1,h2⟩:=wS ls i l k K hl hk hb.1 hb.2 hJ;exact⟨K',.inr ⟨by rw[e,hb.1,hb.2];rfl,h1,h2⟩⟩
theorem uT{H:List OB}{v:AV}{l:List Bytes}(h:jk H v l):∃u S,[v].mapM (fz (bH S 0 H) 20)=some [u]∧Le u (.vsl 0 false (l.map .str))∧∀j,j∈S→∃n,v=.sl j 0 n 0:=by
 rcases h with⟨rfl,rfl|rfl⟩|⟨d,rfl,hd⟩
 ·exact⟨_,[],rfl,.nils _ _,by simp⟩
 ·exact⟨_,[],rfl,.nil _ _ _,by simp⟩
 ·refine⟨.vsl 0 false (l.map .str),[d],?_,.refl _,fun j hj=>⟨l.length,by simp at hj;rw[hj]⟩⟩
  have:(bH [d] 0 H)[d]? =some (.cells (l.map .str) true):=by rw[ij];simp[hd]
  have:=jJ (k:=19) this (Nat.le_refl _);rw[List.take_length]at this;simp only[List.mapM_cons,List.mapM_nil,this];rfl
theorem iA{H:List OB}{S:List Nat}{j:Nat}(h:j∉S):(cy S 0 H)[j]? =H[j]?:=by
 rw[qP];simp[h]
theorem Ce(H:List OB)(S:List Nat):(cy S 0 H).length=H.length:=by
 have:∀(H:List OB) k,(cy S k H).length=H.length:=by
  intro H;induction H with
  |nil=>intro k;rfl
  |cons b H ih=>intro k;simp[cy,ih]
 exact this H 0
theorem JP{H:List OB}{d:Nat}{l:List Bytes}(hd:H[d]? =some (.cells (l.map .str) true))(hl:l.length≤1000000):
    bF Tryz.prog 32 [.sl d 0 l.length 0] H (.ret (.sl d 0 (comp l).length 0)) (H.set d (.cells ((comp l).map .str) true)):=by
  have h:=JC hd hl;have hlt:=(List.getElem?_eq_some_iff.1 hd).1;have:=h.shrink (d:=d) (c:=(comp l).map .str) (r:=(List.replicate (l.length - (comp l).length) []).map .str) (by rw[jH hlt,List.map_append]);rwa[eh,List.set_set]at this
theorem LF:aw Tryz.prog 64 2 [(0,.int .i64 6),(1,.int .i64 7)]=some (.vsl 0 true [.int .i64 6,.int .i64 7]):=by kernel_rfl
theorem bd8:cB Tryz.prog 27 []=some (.agg bK):=by kernel_rfl
theorem dZ{H:List OB}{b:Nat}{vs us:List AV}(hb:H[b]? =some (.cells vs false))(hv:vs.length=8)(hu:us.length=8)(hc:us.all AV.isC=true)(ha:(AV.agg us).cells=us):aE Tryz.prog 27 (.ptr b 0) (.agg us) H=some (H.set b (.cells us false)):=by
 rw[IB];simp only[stC,hb,ha];rw[if_pos ⟨hu,by omega,hc⟩,lV _ _ _ (by omega)];simp
theorem bE.isC{H:List OB}{b:Nat}{vs:List AV}{xs:Nat→List Bytes}(h:bE H b vs xs):vs.all AV.isC=true∧(AV.agg vs).cells=vs:=by
 have h1:∀v∈vs,v.isC=true∧v.cells=[v]:=by
  intro v hv;obtain⟨f,hf⟩:=List.getElem?_of_mem hv;rcases h.own f v hf with⟨_,rfl|rfl⟩|⟨d,rfl,_⟩<;>exact⟨rfl,rfl⟩
 refine⟨List.all_eq_true.2 fun v hv=>(h1 v hv).1,?_⟩;exact iT vs
theorem bE.st{H:List OB}{b:Nat}{vs:List AV}{xs:Nat→List Bytes}(h:bE H b vs xs):aE Tryz.prog 27 (.ptr b 0) (.agg vs) H=some H:=by
 rw[dZ h.blk h.len h.len h.isC.1 h.isC.2,lS h.blk]
theorem bE.aX{H:List OB}{b:Nat}{vs:List AV}{xs:Nat→List Bytes}(h:bE H b vs xs)(o:Out)(ho:o.scalar=true):∃us,Go.Av.aX H [.agg vs] o=some [.agg us]∧Les us ((bc xs).map av):=by
 obtain⟨us,h1,h2⟩:=h.fz (k:=18);by_cases hh:AV.hfs [AV.agg vs]=true
 ·have h3:AV.hf (.agg vs)=true:=by simpa[AV.hfs]using hh
  rw[cJ h3]at h1;cases h1;exact⟨vs,by unfold Go.Av.aX;rw[if_pos hh],h2⟩
 ·refine⟨us,dG (by simpa using hh) ho ?_,h2⟩
  simp only[List.mapM_cons,List.mapM_nil,h1];rfl
noncomputable def cdO:Code:=match Tryz.f15.body with
 |some (.seq _ (.scope c))=>c
 |_=>.skip
noncomputable def lbO:Code:=(findLabel cdO 0).getD .skip
theorem om {rs:List ResultVar} {T:List (Nat×AV)} {K:List OB} {D:List DE} {vs:List AV} {xs:Nat→List Bytes} {e:Int} (hr:rs=[.cell 2 27,.tmp 3]) (hc:bE K 1 vs xs) (h2:Av.get T 2=.ptr 1 0) (h3:Av.get T 3=.int .i64 e)
    (hD:D=[]∨(D=[.mark 4]∧K[4]? =some .dfr)):fp Tryz.prog rs (.ret (.tup [.agg ((bc xs).map av),.int .i64 e])) .ret ⟨T,K,D⟩:=by
  subst hr;have fin: ∀K',bE K' 1 vs xs→ ∃w,fz K' 20 (.tup [.agg vs,.int .i64 e])=some w∧Le w (.tup [.agg ((bc xs).map av),.int .i64 e]):=by
    intro K' hc';obtain⟨us,h4,h5⟩:=hc'.fz (k:=17);exact⟨_,D1 h4 rfl,.tup _ _ (.cons _ _ _ _ (.agg _ _ h5) (.cons _ _ _ _ (.refl _) .nil))⟩
  rcases hD with rfl|⟨rfl,h4⟩
  · obtain⟨w,q1,q2⟩:=fin K hc
    exact ui (a1:=⟨T,K,[]⟩) rfl (pb 2 27 3 (by simp only[h2];exact hc.ld) h3) q1 q2
  · have hc':bE (K.set 4 .dead) 1 vs xs:=hc.set _ (by omega) (hc.free h4 (fun cs e=>by cases e))
    obtain⟨w,q1,q2⟩:=fin _ hc';exact ui (a1:=⟨T,K.set 4 .dead,[]⟩) (qT h4) (pb 2 27 3 (by simp only[h2];exact hc'.ld) h3) q1 q2
theorem wU{T:List (Nat×AV)}{K:List OB}{vs:List AV}{xs:Nat→List Bytes}(hc:bE K 1 vs xs)(h2:Av.get T 2=.ptr 1 0)(h4:K[4]? =some .dfr):
    W Tryz.prog 89 0 none lbO (lp (fp Tryz.prog Tryz.f15.results.toList (.ret (.tup [.agg ((bc pU).map av),.int .i64 270])))) ⟨T,K,[.mark 4]⟩:=by
  have hst:=dZ (us:=bK) hc.blk hc.len rfl rfl rfl;refine W.bQ [(2,.ptr 1 0)] ⟨h2,trivial⟩ ?_;show W Tryz.prog 89 0 none (.seq .skip (.seq (.region 23 _ _) .ret)) _ _;refine .vc (by decide) ?_
  repeat'(first|(simp(disch:=first|omega|(simp only[zL];omega))only[go_sem,seval,bd8,hst,lp]))
  refine om rfl (bE.none ?_) rfl rfl (.inr ⟨rfl,?_⟩)
  · rw[List.getElem?_set_self (List.getElem?_eq_some_iff.1 hc.blk).1]
  · rw[List.getElem?_set_ne (by omega)];exact h4
theorem Cf(ls:List Ln)(i:Nat):xsO ls (i+1)=kB (xsO ls i) (6+i) (sG (xsP ls (6+i))):=by
 funext g;unfold kB xsO;by_cases hg:g=6+i
 ·subst hg;rw[if_pos (by omega),if_pos rfl]
 ·rw[if_neg hg]
  by_cases h:6≤g∧g<6+i
  ·rw[if_pos (by omega),if_pos h]
  ·rw[if_neg (by omega),if_neg h]
theorem HQ(ls:List Ln)(i:Nat):xsO ls i (6+i)=xsP ls (6+i):=if_neg (by omega)
theorem jM{x y:Nat→List Bytes}(h:∀f,f<8→x f=y f):br x=br y:=by
 unfold br;rw[h 0 (by omega)];congr 1;rw[Bool.eq_iff_iff];simp only[List.all_eq_true,List.mem_range];exact⟨fun q f hf=>by rw[←h f hf];exact q f hf,fun q f hf=>by rw[h f hf];exact q f hf⟩
theorem JQ(i:Nat)(h:i<2)(X:List OB):ah Tryz.prog 64 (.vsl 0 true [.int .i64 6,.int .i64 7]) (.int .i64 (i:Int)) X=some (.vptr [.int .i64 ((6+i:Nat):Int)]):=by
 refine zk (v:=.int .i64 ((6+i:Nat):Int)) ?_ rfl X
 match i,h with
 |0,_=>rfl
 |1,_=>rfl
set_option maxRecDepth 100000 in
theorem lb(c:Cd):aa Tryz.prog 15 [aS c] (.ret (.tup [.agg ((bc (ofP c).1).map av),.int .i64 ((ofP c).2:Nat)])):=by
 have hck:=sE c;have hlv:=BV c;have hst:=fun(h0:aL c=0) (H:List OB) (hJ:jO c.ls 0 H)=>BW 5 c (by have:=(ey h0).1;omega) (okP c.ls) H (jO c.ls) bO hJ (fun i K M h=>EM M h) (fun i l K hl hJ=>HP c.ls (ey h0).1 (fun l hl=>((ey h0).2 l hl).1) i l K hl hJ);have ho:ofP c=if aL c=0 then(if(List.range c.ls.length).all (okP c.ls)&&(inB nFN (cL c.ls)&&br (xO c.ls))then(xO c.ls,0)else(pU,270))else(pU,2):=rfl
 obtain⟨ver,fx,ls⟩:=c;have hLh:=aN ls;simp only[aS]at hck hlv hst ho ⊢;generalize hL:ls.map aq=L at*;generalize ofP ⟨ver,fx,ls⟩=r at*;have hn8:∀A E,bE (A::.cells bK false::E) 1 bK pU:=fun A E=>bE.none rfl;refine aa.of Tryz.func15 rfl (ab enters Tryz.func15 rfl) (by simp[Tryz.ntmps15]) ?_;show W Tryz.prog 89 0 none (.seq (.region 0 _ _) (.scope _)) _ _;refine .seq (.vc (by decide) ?_)
 repeat'(first|(simp(disch:=first|omega|(simp only[zL];omega))only[go_sem,seval]))
 refine W.scope (rest:=lbO) 0 rfl ?_;by_cases h0:aL ⟨ver,fx,ls⟩=0
 case neg=>
  rw[if_neg h0]at ho;subst ho;have hb:((aL ⟨ver,fx,ls⟩:Nat):Int)≠0:=by omega
  have q1:=fun A E=>(hn8 A E).ld;have q2:=fun A E=>(hn8 A E).st;simp only[bK]at q1 q2;refine .vc (by decide) ?_
  repeat'(first|(simp(disch:=first|omega|(simp only[zL];omega))only[go_sem,seval,q1,q2,hb,mH])|((with_reducible first|apply aj.pure|apply an.pure);(with_reducible exact hck);(first|rfl|simp only[go_sem,hLh])))
  exact om (vs:=bK) rfl (hn8 _ _) rfl rfl (.inl rfl)
 case pos=>
  rw[if_pos h0]at ho;rw[h0]at hck;obtain⟨hn1,hv1⟩:=ey h0;simp only at hn1 hv1;refine .vc (by decide) ?_
  repeat'(first|(simp(disch:=first|omega|(simp only[zL];omega))only[go_sem,seval,mK,mH])|((with_reducible first|apply aj.pure|apply an.pure);(with_reducible assumption);(first|rfl|simp only[go_sem,hLh])))
  have hJ0:∀(A:OB) (T:List (Nat×AV)),aB T [(2,.ptr 1 0),(4,.ptr 3 0)]→jO ls 0 ([A,.cells bK false,.map [] [],.cells [.map 2] false]++[.dfr,.loop T lkO]):=
   fun A T hT=>⟨⟨bK,by rw[List.take_zero];exact bE.none rfl⟩,rfl,rfl,rfl,T,rfl,hT⟩
  refine W.iQ (gf:=68) (fs:=[]) (cs:=[.vptr [.str ver,.vsl 5 fx L],.vptr [.vmap (fk.map .str) fZ]]) rfl (ab enters Tryz.func68 rfl) (hst h0 _ (hJ0 _ _ ⟨rfl,rfl,trivial⟩)) ?_;rintro out K ⟨rfl,⟨hall,⟨vs,hc⟩,m2,m3,m4,T',m5,hT0⟩|⟨hno,⟨vs,xs,hc⟩,m4,T',m5⟩⟩
  case inr=>
   rw[if_neg (by rw[hno];simp)]at ho;subst ho;refine⟨_,T',kgO,rfl,m5,by simp[kgO],?_⟩;show cC _ _ _ _ _ (some (.goto 0));simp only[cC];refine .goto ?_;have hfr:=hc.free m5 (fun cs e=>by cases e);refine And.intro rfl ?_;exact(wU (hc.set _ (by simp) hfr) rfl (by rw[show([OB.cells [.str ver,.vsl 5 fx L] false,.cells [.nilsl,.nilsl,.nilsl,.nilsl,.nilsl,.nilsl,.nilsl,.nilsl] false,.map [] [],.cells [.map 2] false]:List OB).length+1=5 from rfl,List.getElem?_set_ne (by decide)];exact m4))
  case inl=>
  rw[List.take_length]at hc m2;rw[hall,Bool.true_and]at ho;refine⟨_,T',lkO,rfl,m5,by simp[lkO],?_⟩;show cC _ _ _ _ _ none;obtain⟨M,hM⟩:∃M,M=K.set 5 .dead:=⟨_,rfl⟩
  have hMe:K.set ([OB.cells [.str ver,.vsl 5 fx L] false,.cells [.nilsl,.nilsl,.nilsl,.nilsl,.nilsl,.nilsl,.nilsl,.nilsl] false,.map [] [],.cells [.map 2] false].length+1) .dead=M:=hM.symm;rw[hMe];have hc0:bE M 1 vs (xsO ls 0):=by
   have:xsO ls 0=xsP ls:=by funext f;exact if_neg (by omega)
   rw[this,hM];exact hc.set _ (by omega) (hc.free m5 (fun cs e=>by cases e))
  have gM:∀j o,j≠5→K[j]? =some o→M[j]? =some o:=fun j o hj h=>by rw[hM,List.getElem?_set_ne (by omega)];exact h
  replace m2:=gM 2 _ (by omega) m2
  replace m3:=gM 3 _ (by omega) m3
  replace m4:=gM 4 _ (by omega) m4
  clear hM hMe gM m5 hc hst hJ0
  repeat'(first|(simp(disch:=first|omega|(simp only[zL];omega))only[go_sem,seval,cC,LF]))
  refine W.loop (X:=Nat) (fun i a=>aB a.T [(66,.int .i64 (i:Int)),(65,.int .i64 2),(64,.vsl 0 true [.int .i64 6,.int .i64 7]),(2,.ptr 1 0),(4,.ptr 3 0)]∧(∃vs,bE a.H 1 vs (xsO ls i))∧a.H[2]? =some (my (cL ls))∧a.H[3]? =some (.cells [.map 2] false)∧a.H[4]? =some .dfr∧a.D=[.mark 4]∧i≤2) (fun i=>2 - i) 0 ⟨⟨rfl,rfl,rfl,rfl,rfl,trivial⟩,⟨vs,hc0⟩,m2,m3,m4,rfl,Nat.zero_le _⟩ ?_;clear hc0 m2 m3 m4 M vs hT0 T' K;rintro i ⟨T,M,D⟩ ⟨hT,⟨vs,hc⟩,m2,m3,m4,rfl,hi⟩;simp only at hT hc m2 m3 m4;refine W.bQ _ hT (.vc (by decide) ?_);by_cases h:i<2
  ·have hi1:=JQ i h
   have hf8:6+i<8:=by omega
   have hia:=eG 1 (6+i) hf8;obtain⟨v,hv,hld,hown⟩:=hc.slot hf8;rw[HQ]at hown;have hll:(xsP ls (6+i)).length≤1000000:=by have:=oj ls (6+i);omega
   obtain⟨u,S,hgv,hle,hS⟩:=uT hown;have hval:=aa.le (.cons _ _ _ _ hle .nil) (EA false (xsP ls (6+i)));obtain⟨M1,hM1⟩:∃M1,M1=cy S 0 M:=⟨_,rfl⟩
   have lM1:M1.length=M.length:=by rw[hM1,Ce]
   have gM1:∀j,(∀n,v≠ .sl j 0 n 0)→M1[j]? =M[j]?:=fun j hj=>by rw[hM1];exact iA fun hm=>let ⟨n,e⟩:=hS j hm;hj n e
   have gM2:∀j o,M[j]? =some o→(∀cs,o≠OB.cells cs true)→M1[j]? =some o:=fun j o ho hn=>by
    rw[gM1 j fun n e=>hc.free ho hn (6+i) n (by rw[hv,e])];exact ho
   have hsrt:=bt.frame (H:=M1) (by simp[AV.hfs,AV.hf,aF]) ((ED false (xsP ls (6+i)) hll).mono fun o K h=>fj h);have hb1:M1[1]? =some (.cells vs false):=gM2 1 _ hc.blk (fun cs e=>by cases e);have hold:∀(X:List OB),(∀j,j<M.length→X[j]? =M1[j]?)→∀(g:Nat) (w:AV),g≠6+i→vs[g]? =some w→jk X w (xsO ls i g):=fun X hX g w hg hw=>(hc.own g w hw).fm fun d n e=>by
    have hd:d<M.length:=by
     rcases hc.own g w hw with⟨_,e3|e3⟩|⟨d',e3,h3⟩
     ·rw[e]at e3;cases e3
     ·rw[e]at e3;cases e3
     ·rw[e]at e3;cases e3;exact(List.getElem?_eq_some_iff.1 h3).1
    rw[hX d hd,gM1 d fun m e2=>hc.apart g (6+i) d n m hg (by rw[hw,e]) (by rw[hv,e2])]
   have hstep:=Cf ls i;have l1:1<M.length:=(List.getElem?_eq_some_iff.1 hc.blk).1;have l4:4<M.length:=(List.getElem?_eq_some_iff.1 m4).1
   repeat'(first|(simp(disch:=first|omega|(simp only[zL];omega))only[go_sem,seval,hi1,hia,hld])|(guard_target=~ aj _ _ _ _ _ _ _;refine aj.vT S [u] hval hgv ?_))
   rw[←hM1]
   repeat'(first|(simp(disch:=first|omega|(simp only[zL];omega))only[go_sem,seval])|(guard_target=~ aj _ _ _ _ _ _ _;refine aj.any _ hsrt ?_))
   rintro out K (⟨r0,rfl,hr0,⟨e0,rfl⟩,rfl⟩|⟨off,len,wd,cells,opn,rfl,hcs,⟨rfl,rfl,rfl,rfl,rfl⟩,rfl⟩)
   ·have hou:sG (xsP ls (6+i))=[]:=by rw[sG,e0];rfl
    obtain⟨p1,p2⟩:=bE.put (H:=K) (b:=1) (vs:=vs) (xs:=xsO ls i) (f:=6+i) (v:=.vsl 0 true []) (l:=[]) hb1 hc.len hf8 (hold K fun _ _=>rfl) (fun f' g d n m _ _ h3=>hc.apart f' g d n m h3)
     (.inl ⟨rfl,.inr rfl⟩) (fun g d n m _ e=>by cases e) (fun n e=>by cases e) (fun g n _=>hc.sR g n)
    rw[←hou,←hstep]at p2
    repeat'(first|(simp(disch:=first|omega|(simp only[zL];omega))only[go_sem,seval,hia,p1])|((with_reducible first|apply aj.pure|apply an.pure);(with_reducible exact EE);(first|rfl|simp only[go_sem])))
    refine⟨i+1,⟨⟨rfl,rfl,rfl,rfl,rfl,trivial⟩,⟨_,p2⟩,?_,?_,?_,h⟩,by omega⟩
    ·rw[List.getElem?_set_ne (by omega)];exact gM2 2 _ m2 (fun cs e=>by cases e)
    ·rw[List.getElem?_set_ne (by omega)];exact gM2 3 _ m3 (fun cs e=>by cases e)
    ·rw[List.getElem?_set_ne (by omega)];exact gM2 4 _ m4 (fun cs e=>by cases e)
   ·have hsl:(cp (xsP ls (6+i))).length≤1000000:=by rw[(me (xsP ls (6+i))).length_eq];exact hll
    have hcm:=JP (H:=M1++[.cells ((cp (xsP ls (6+i))).map .str) true]) (d:=M1.length) (l:=cp (xsP ls (6+i))) (by simp) hsl;obtain⟨M3,hM3⟩:∃M3,M3=(M1++[OB.cells ((cp (xsP ls (6+i))).map .str) true]).set M1.length (.cells ((comp (cp (xsP ls (6+i)))).map .str) true):=⟨_,rfl⟩
    rw[←hM3]at hcm;have g3:∀j,j<M.length→M3[j]? =M1[j]?:=fun j hj=>by rw[hM3,List.getElem?_set_ne (by omega),List.getElem?_append_left (by omega)]
    have g3n:M3[M1.length]? =some (.cells ((comp (cp (xsP ls (6+i)))).map .str) true):=by rw[hM3,List.getElem?_set_self (by simp)]
    obtain⟨p1,p2⟩:=bE.put (H:=M3) (b:=1) (vs:=vs) (xs:=xsO ls i) (f:=6+i) (v:=.sl M1.length 0 (comp (cp (xsP ls (6+i)))).length 0) (l:=comp (cp (xsP ls (6+i)))) (by rw[g3 1 l1];exact hb1) hc.len hf8 (hold M3 g3) (fun f' g d n m _ _ h3=>hc.apart f' g d n m h3)
     (.inr ⟨M1.length,rfl,g3n⟩) (fun g d n m _ e=>by cases e;exact hc.fresh (by omega) g m) (fun n e=>by injection e with e1;omega) (fun g n _=>hc.sR g n)
    rw[show comp (cp (xsP ls (6+i)))=sG (xsP ls (6+i))from rfl,←hstep]at p2
    repeat'(first|(simp(disch:=first|omega|(simp only[zL];omega))only[go_sem,seval,hia,p1])|(guard_target=~ aj _ _ _ _ _ _ _;refine aj.sh hcm ?_))
    refine⟨i+1,⟨⟨rfl,rfl,rfl,rfl,rfl,trivial⟩,⟨_,p2⟩,?_,?_,?_,h⟩,by omega⟩
    ·rw[List.getElem?_set_ne (by omega),g3 2 (by omega)];exact gM2 2 _ m2 (fun cs e=>by cases e)
    ·rw[List.getElem?_set_ne (by omega),g3 3 (by omega)];exact gM2 3 _ m3 (fun cs e=>by cases e)
    ·rw[List.getElem?_set_ne (by omega),g3 4 (by omega)];exact gM2 4 _ m4 (fun cs e=>by cases e)
  ·have e:i=2:=by omega
   subst e;have k1:al Tryz.prog 60 (.ptr 3 0) M=some (.map 2):=by simp[zb,ldC,m3]
   have k3:=kj m2 [102,110];rw[show inB nFN (cL ls)=inB [102,110] (cL ls)from rfl]at ho;have hld:=hc.ld;have hstc:=hc.st;have hk8:br (ar (bc (xsO ls 2)))=br (xO ls):=jM fun f hf=>ix _ hf;have hcv:=Hh (bc (xsO ls 2)) (bM _);rw[hk8]at hcv;cases hb:inB [102,110] (cL ls)with
   |false=>
    rw[hb]at k3 ho;simp only[Bool.false_and,Bool.false_eq_true,if_false]at ho;subst ho
    repeat'(first|(simp(disch:=first|omega|(simp only[zL];omega))only[go_sem,seval,k1,k3,mH]))
    exact wU hc rfl m4
   | true=>
    rw[hb,Bool.true_and]at ho;rw[hb]at k3;obtain⟨us,hle,hles⟩:=hc.aX (.ret (.int .i64 (if br (xO ls)then 0 else 2))) rfl;have hcv2:=aa.le (.cons _ _ _ _ (.agg _ _ hles) .nil) hcv;cases hk:br (xO ls)with
    |true=>
     rw[hk,if_pos rfl]at ho hcv2 hle;subst ho
     repeat'(first|(simp(disch:=first|omega|(simp only[zL];omega))only[go_sem,seval,k1,k3,hld,hstc,mH])|(guard_target=~ aj _ _ _ _ _ _ _;refine aj.aX _ hcv2 hle ?_))
     exact om rfl hc rfl rfl (.inr ⟨rfl,m4⟩)
    |false=>
     rw[hk]at ho hcv2 hle;simp only[Bool.false_eq_true,if_false]at ho hcv2 hle;subst ho
     repeat'(first|(simp(disch:=first|omega|(simp only[zL];omega))only[go_sem,seval,k1,k3,hld,mH])|(guard_target=~ aj _ _ _ _ _ _ _;refine aj.aX _ hcv2 hle ?_))
     exact wU hc rfl m4
def bV(q:Ln×Bool):AV:=.agg [.str q.1.g,.str q.1.n,if q.2 then .nilsl else .vsl 3 q.1.x (q.1.ps.map aH),.str q.1.v]
theorem iB(q:Ln×Bool):(bV q).cells.length=esz 5:=rfl
theorem jN(q:Ln×Bool):(bV q).cells.all AV.isC=true:=by
 obtain⟨l,b⟩:=q;cases b<;>rfl
theorem sW(q:Ln×Bool):(bV q).hf=true:=by
 obtain⟨l,b⟩:=q;cases b<;>simp[bV,AV.hf,AV.hfs,az]
theorem sX(l:Ln):bV (l,false)=aq l:=rfl
theorem pV:∀(l:List (Ln×Bool)),(∀q∈l,q.2=true→q.1.ps=[])→Lee (l.map bV) ((l.map (·.1)).map aq)
 | [],_=>.nil
 | q::l,h=>by
  refine .cons _ _ _ _ ?_ (pV l fun q hq=>h q (by simp[hq]));obtain⟨m,b⟩:=q;cases b with
  |false=>exact .cons _ _ _ _ (.refl _) (.cons _ _ _ _ (.refl _) (.cons _ _ _ _ (.refl _) (.cons _ _ _ _ (.refl _) .nil)))
  |true=>
   have:=h (m,true) (by simp) rfl;simp only at this;refine .cons _ _ _ _ (.refl _) (.cons _ _ _ _ (.refl _) (.cons _ _ _ _ ?_ (.cons _ _ _ _ (.refl _) .nil)));rw[this];exact .nils _ _
def na(H:List OB)(v:AV)(L:List (Ln×Bool)):Prop:=(L=[]∧v=.nilsl)∨∃d,v=.sl d 0 L.length 5∧H[d]? =some (.cells (aU bV L) true)
theorem na.fm{H K:List OB}{v:AV}{L:List (Ln×Bool)}(h:na H v L)(hk:∀d n,v=.sl d 0 n 5→K[d]? =H[d]?):na K v L:=by
 rcases h with h|⟨d,h1,h2⟩
 ·exact .inl h
 ·exact .inr ⟨d,h1,by rw[hk d _ h1];exact h2⟩
theorem na.lt{H:List OB}{v:AV}{L:List (Ln×Bool)}(h:na H v L){d n:Nat}(e:v=.sl d 0 n 5):∃cs,H[d]? =some (.cells cs true):=by
 rcases h with⟨_,h⟩|⟨d',h1,h2⟩
 ·rw[e]at h;cases h
 ·rw[e]at h1;cases h1;exact⟨_,h2⟩
theorem uU(q:Ln×Bool):aw Tryz.prog 22 1 [(0,bV q)]=some (.vsl 5 true [bV q]):=by
 obtain⟨l,b⟩:=q;cases b<;>simp[aw,Tryz.underlying22,za,bV,AV.cells,AV.told,esz]
set_option maxRecDepth 8000 in
theorem FM{H:List OB}{o:Nat}{ver:Bytes}{ov:AV}{L:List (Ln×Bool)}(h3:H[o]? =some (.cells [.str ver,ov] false))(hown:na H ov L)(q:Ln×Bool)(hl:L.length<1000000):
    ∃ M:List OB,M.length=H.length+1∧M[H.length]? =some (OB.cells (aU bV (L++[q])) true)∧(∀i,i<H.length→(∀n,ov≠ .sl i 0 n 5)→M[i]? =H[i]?)∧
      bF Tryz.prog 55 [.vsl 5 true [bV q],.ptr o 0] H (.ret (.tup [])) (M.set o (OB.cells [.str ver,.sl H.length 0 (L.length+1) 5] false)):=by
  have lo:=(List.getElem?_eq_some_iff.1 h3).1;have hs:kN 5 bV H (deN ov) L:=by
    rcases hown with⟨e,rfl⟩|⟨d,rfl,hd⟩
    · exact .inl ⟨e,0,rfl⟩
    · exact .inr ⟨d,rfl,hd⟩
  obtain⟨M,hap,hlen,hnew,hold⟩:=il (P:=Tryz.prog) (sT:=22) (wd:=5) Tryz.underlying22 za bV iB jN (by decide) hs q true (by omega);have hfree: ∀i,i<H.length→(∀n,ov≠ .sl i 0 n 5)→M[i]? =H[i]? :=by
    intro i hi hn;refine hold i hi fun e=> ?_;rcases hown with⟨_,rfl⟩|⟨d,rfl,hd⟩
    · cases e
    · exact hn _ e
  have hno: ∀n,ov≠ .sl o 0 n 5:=by
    intro n e;obtain⟨cs,hc⟩:=hown.lt e;rw[h3]at hc;injection(Option.some.inj hc)with _ h;cases h
  have g3:M[o]? =some (.cells [.str ver,ov] false):=by rw[hfree o lo hno];exact h3
  refine⟨M,hlen,hnew,hfree,bt.one ?_⟩;refine bt.ofX Tryz.func55 rfl (ab enters Tryz.func55 rfl) (by simp[Tryz.ntmps55]) ?_;show W Tryz.prog 8 _ none _ _ ⟨bn 0 [.vsl 5 true [bV q],.ptr o 0],H,[]⟩;have k1:al Tryz.prog 22 (.ptr o 1) H=some ov:=by simp[kA,ldC,h3]
  have k2:aE Tryz.prog 22 (.ptr o 1) (.sl H.length 0 (L.length+1) 5) M=some (M.set o (.cells [.str ver,.sl H.length 0 (L.length+1) 5] false)):=by
    rw[Ds];simp[stC,g3,AV.cells,AV.isC,cm]
  generalize bV q=Q at hap;refine .vc (by decide) ?_
  repeat'(first|(simp(disch:=first|omega|(simp only[zL];omega))only[go_sem,seval,k1,k2,hap]))
  exact⟨_,_,⟨rfl,rfl⟩,_,rfl,rfl,_,rfl,rfl⟩
theorem JR:aw Tryz.prog 44 0 []=some (.vsl 3 true []):=by simp[aw,Tryz.underlying44,Gd]
set_option maxRecDepth 8000 in
theorem HR(x:Bool)(ps:List (Bytes×Bytes))(hL:ps.length≤1000000):aa Tryz.prog 56 [.vsl 3 x (ps.map aH)] (.ret (.vsl 3 false (ps.map aH))):=by
 cases ps with
 | nil=>
  have h0:aG Tryz.prog 44 44 (.vsl 3 true []) (.vsl 3 x []) []=some (.vsl 3 true [],[]):=by
   simp[aG,apX,Tryz.underlying44,Gd,ch,bW,esz]
  simp only[List.map_nil];refine aa.of Tryz.func56 rfl (ab enters Tryz.func56 rfl) (by simp[Tryz.ntmps56]) ?_;show W Tryz.prog 8 0 none _ _ _;refine W.vc (by decide) ?_
  repeat'(first|(simp(disch:=first|omega|(simp only[zL];omega))only[go_sem,seval,VA]))
  rintro(_|_)
  ·repeat'(first|(simp(disch:=first|omega|(simp only[zL];omega))only[go_sem,seval,JR,h0]))
   exact wh 2 rfl rfl rfl rfl (.nil _ _ _)
  ·repeat'(first|(simp(disch:=first|omega|(simp only[zL];omega))only[go_sem,seval]))
   exact wh 2 rfl rfl rfl rfl (.nil _ _ _)
 | cons a l=>
  have hn:aG Tryz.prog 44 44 (.vsl 3 true []) (.vsl 3 x ((a::l).map aH)) []=some (.sl 0 0 (a::l).length 3,[.cells (aU aH (a::l)) true]):=by
   have h:¬(a::l).length=0:=by simp
   simp only[aG,apX,Tryz.underlying44,Gd,ch,bW,esz,↓reduceIte,List.length_nil,Nat.zero_add,List.flatMap_nil,List.nil_append,List.length_map,h];rw[if_pos (by omega)];rfl
  have e1:=JE 44 3 x (aH a) (l.map aH) nkP 0 0;obtain⟨u,hu,hle⟩:=ob (k:=19) (n:=2) (f:=aH) (M:=[.cells (aU aH (a::l)) true]) (v:=.sl 0 0 (a::l).length 3) (L:=a::l) (by decide) (fun p=>⟨_,rfl,rfl⟩) (fun p=>rfl) (.inr ⟨0,rfl,rfl⟩);generalize aU aH (a::l)=fl at hn hu;simp only[List.map_cons]at hn hle ⊢;generalize aH a=ea at e1 hn hle ⊢;generalize l.map aH=el at e1 hn hle ⊢;refine aa.of Tryz.func56 rfl (ab enters Tryz.func56 rfl) (by simp[Tryz.ntmps56]) ?_;show W Tryz.prog 8 0 none _ _ _;refine W.vc (by decide) ?_
  repeat'(first|(simp(disch:=first|omega|(simp only[zL];omega))only[go_sem,seval,e1,JF,JG,JR,hn]))
  exact nQ 2 rfl rfl rfl hu hle
/-! ### Plain -/
def bq(c:List Val)(l:Ln):Ln×Bool:=match aD (small l.n)with
 |none=>({l with x:=false},true)
 |some k=>cK {l with x:=false} k c
def ei(c:List Val)(ls:List Ln):List (Ln×Bool):=ls.flatMap fun l=>if(bq c l).2 then [((bq c l).1,false)]else []
def uV(c:List Val)(acc:List Bytes)(l:Ln):List Bytes:=match aD (small l.n)with
 |some _=>if(bq c l).2 then(if small l.n∈acc then acc else acc++[small l.n])else acc
 |none=>acc
def bf(c:List Val)(ls:List Ln):List Bytes:=ls.foldl (uV c) []
def kH(c:List Val)(l:Ln)(f:Nat):List Bytes:=match aD (small l.n)with
 |some k=>if(bq c l).2&&k.many&&(k.fs.headD 8==f)then [(ba k l.v).headD []]else []
 |none=>[]
def bX(c:List Val)(ls:List Ln)(f:Nat):List Bytes:=ls.flatMap fun l=>kH c l f
theorem nb{c:List Val}{ls:List Ln}{i:Nat}{l:Ln}(h:ls[i]? =some l):ei c (ls.take (i+1))=ei c (ls.take i)++(if(bq c l).2 then [((bq c l).1,false)]else []):=by
 rw[List.take_add_one,h,ei,List.flatMap_append];simp[ei]
theorem jP{c:List Val}{ls:List Ln}{i:Nat}{l:Ln}(h:ls[i]? =some l):bf c (ls.take (i+1))=uV c (bf c (ls.take i)) l:=by
 rw[List.take_add_one,h,bf,List.foldl_append];rfl
theorem iW{c:List Val}{ls:List Ln}{i:Nat}{l:Ln}(h:ls[i]? =some l)(f:Nat):bX c (ls.take (i+1)) f=bX c (ls.take i) f++kH c l f:=by
 rw[List.take_add_one,h,bX,List.flatMap_append];simp[bX]
theorem pW(c:List Val)(ls:List Ln):(ei c ls).length≤ls.length:=by
 induction ls with
 |nil=>simp[ei]
 |cons l ls ih=>
  have h1:(if(bq c l).2 then [((bq c l).1,false)]else([]:List (Ln×Bool))).length≤1:=by split<;>simp
  simp only[ei,List.flatMap_cons,List.length_append,List.length_cons]at ih ⊢;omega
theorem zJ(c:List Val)(l:Ln)(f:Nat):(kH c l f).length≤1:=by
 unfold kH;split
 ·split<;>simp
 ·simp
theorem zK(c:List Val)(ls:List Ln)(f:Nat):(bX c ls f).length≤ls.length:=by
 induction ls with
 |nil=>simp[bX]
 |cons l ls ih=>have:=zJ c l f;simp only[bX,List.flatMap_cons,List.length_append,List.length_cons]at ih ⊢;omega
/-! ### Memory between two rounds -/
noncomputable def asL:Code:=match Tryz.f26.body with
 |some (.seq _ (.seq _ (.seq _ (.seq _ (.seq _ (.seq (.seq _ (.block _ (.rangeFunc _ _ a _))) _))))))=>a
 |_=>.skip
noncomputable def bdL:Code:=match Tryz.f26.body with
 |some (.seq _ (.seq _ (.seq _ (.seq _ (.seq _ (.seq (.seq _ (.block _ (.rangeFunc _ _ _ b))) _))))))=>b
 |_=>.skip
noncomputable def lkL:cN:=⟨162,#[29,30],asL,bdL,.ready,none⟩
noncomputable def kbL:cN:=⟨162,#[29,30],asL,bdL,.busy,none⟩
abbrev pX:AV:=.func (.func 55) [] [.ptr 3 0]
structure dB (K:List OB) (ver:Bytes) (ov:AV) (L:List (Ln×Bool)) (vs:List AV) (xs:Nat→List Bytes):Prop where
 two:K[2]? =some (.cells [.str [],.nilsl] false)
 blk:K[3]? =some (.cells [.str ver,ov] false)
 own:na K ov L
 con:bE K 5 vs xs
 apart:∀d n,ov=.sl d 0 n 5→kZ vs d
theorem dB.fm{H K:List OB}{ver:Bytes}{ov:AV}{L:List (Ln×Bool)}{vs:List AV}{xs:Nat→List Bytes}(h:dB H ver ov L vs xs)(hk:∀j o,H[j]? =some o→(j=2∨j=3∨j=5∨∃cs,o=OB.cells cs true)→K[j]? =some o):dB K ver ov L vs xs:=by
 refine⟨hk 2 _ h.two (.inl rfl),hk 3 _ h.blk (.inr (.inl rfl)),h.own.fm fun d n e=>?_,h.con.fm (by rw[h.con.blk];exact hk 5 _ h.con.blk (.inr (.inr (.inl rfl)))) fun d hd=>?_,h.apart⟩
 ·obtain⟨cs,hc⟩:=h.own.lt e
  rw[hc];exact hk d _ hc (.inr (.inr (.inr ⟨_,rfl⟩)))
 ·cases hd2:H[d]? with
  |none=>exact(hd (h.con.fresh (by rw[List.getElem?_eq_none_iff]at hd2;exact hd2))).elim
  |some o=>
   by_cases ho:∃cs,o=OB.cells cs true
   ·exact hk d _ hd2 (.inr (.inr (.inr ho)))
   ·exact(hd (h.con.free hd2 fun cs e=>ho ⟨cs,e⟩)).elim
theorem dB.set{H:List OB}{ver:Bytes}{ov:AV}{L:List (Ln×Bool)}{vs:List AV}{xs:Nat→List Bytes}(h:dB H ver ov L vs xs){i:Nat}{b:OB}(o:OB)(hi:H[i]? =some b)(hb:∀cs,b≠ .cells cs true)(h3:i≠3)(h5:i≠5)(h2:i≠2:=by omega):dB (H.set i o) ver ov L vs xs:=
 h.fm fun j p hj hp=>by
  have:j≠i:=by
   rintro rfl;rw[hi]at hj;cases hj;rcases hp with e|e|e|⟨cs,e⟩
   ·exact h2 e
   ·exact h3 e
   ·exact h5 e
   ·exact hb cs e
  rw[List.getElem?_set_ne (by omega)];exact hj
theorem dB.more{H:List OB}{ver:Bytes}{ov:AV}{L:List (Ln×Bool)}{vs:List AV}{xs:Nat→List Bytes}(h:dB H ver ov L vs xs)(E:List OB):dB (H++E) ver ov L vs xs:=
 h.fm fun j p hj _=>aV hj
theorem dB.add {H:List OB} {ver:Bytes} {ov:AV} {L:List (Ln×Bool)} {vs:List AV} {xs:Nat→List Bytes} (h:dB H ver ov L vs xs) (q:Ln×Bool) (hl:L.length<1000000):
    ∃N ov',bF Tryz.prog 55 [.vsl 5 true [bV q],.ptr 3 0] H (.ret (.tup [])) N∧dB N ver ov' (L++[q]) vs xs∧N.length=H.length+1∧ ∀j o,j≠3→H[j]? =some o→(∀cs,o≠ .cells cs true)→N[j]? =some o:=by
  obtain⟨M,hlen,hnew,hold,hsh⟩:=FM h.blk h.own q hl;have l3:=(List.getElem?_eq_some_iff.1 h.blk).1;have hov: ∀j o,H[j]? =some o→(∀cs,o≠OB.cells cs true)→ ∀n,ov≠ .sl j 0 n 5:=fun j o hj ho n e=>by
    obtain⟨cs,hc⟩:=h.own.lt e;rw[hj]at hc;exact ho cs (Option.some.inj hc)
  refine⟨_,_,hsh,⟨by rw[List.getElem?_set_ne (by omega),hold 2 (List.getElem?_eq_some_iff.1 h.two).1 (hov 2 _ h.two (fun cs e=>by cases e))];exact h.two,by rw[List.getElem?_set_self (by omega)],.inr ⟨H.length,by simp,?_⟩,?_,?_⟩,by simp[hlen],fun j o hj ho hn=> ?_⟩
  · rw[List.getElem?_set_ne (by omega)];exact hnew
  · have hc:bE M 5 vs xs:=h.con.fm (hold 5 (List.getElem?_eq_some_iff.1 h.con.blk).1 (hov 5 _ h.con.blk (fun cs e=>by cases e))) fun d hd=>by
      have hdl:d<H.length:=by
        by_cases hx:d<H.length
        · exact hx
        · exact(hd (h.con.fresh (by omega))).elim
      exact hold d hdl fun n e=>hd (h.apart d n e)
    exact hc.set _ (by omega) (h.con.free h.blk (fun cs e=>by cases e))
  · intro d n e
    injection e with e1
    subst e1;exact h.con.fresh (Nat.le_refl _)
  · rw[List.getElem?_set_ne (by omega),hold j (List.getElem?_eq_some_iff.1 ho).1 (hov j o ho hn)]
    exact ho
def jL(ver:Bytes)(c:List Val)(ls:List Ln)(i:Nat)(K:List OB):Prop:=
 K[1]? =some (.cells (c.map av) false)∧(∃ov vs,dB K ver ov (ei c (ls.take i)) vs (bX c (ls.take i)))∧K[4]? =some (.cells [pX] false)∧K[6]? =some (my (bf c (ls.take i)))∧K[7]? =some (.cells [.map 6] false)∧K[8]? =some .dfr∧
  ∃T,K[9]? =some (.loop T lkL)∧aB T [(3,.ptr 1 0),(6,.ptr 4 0),(7,.ptr 5 0),(8,.ptr 7 0)]
theorem EN{ver:Bytes}{c:List Val}{ls:List Ln}{i:Nat}{K:List OB}(M:List OB)(h:jL ver c ls i K):jL ver c ls i (K++M):=by
 obtain⟨h1,⟨ov,vs,h2⟩,h4,h6,h7,h8,T,h9,hT⟩:=h;exact⟨aV h1,⟨ov,vs,h2.more M⟩,aV h4,aV h6,aV h7,aV h8,T,aV h9,hT⟩
def bare(l:Ln):Ln:={l with x:=false}
def bI(l:Ln)(x:Bool):List AV:=[.str l.g,.str l.n,.vsl 3 x (l.ps.map aH),.str l.v]++kdL (aD (small l.n))++[.str (small l.n)]
theorem Cg(l:Ln):dq l=.agg (bI l l.x):=rfl
theorem kp(l:Ln)(x:Bool):(bI l x).length=8:=by
 unfold bI;cases aD (small l.n)<;>rfl
theorem zM(l:Ln)(x:Bool):(bI l x).all AV.isC=true:=by
 unfold bI;cases aD (small l.n)<;>rfl
theorem rn(l:Ln)(x:Bool):AV.hfs (bI l x)=true:=by
 have hF:∀k:Kd,AV.hf (fsV k)=true:=fun k=>by
  rw[fsV,AV.hf,be,List.all_eq_true];intro v hv;obtain⟨l,_,rfl⟩:=List.mem_map.1 hv;rfl
 unfold bI;cases aD (small l.n)with
 |none=>simp[kdL,AV.hfs,AV.hf,az]
 |some k=>simp[kdL,AV.hfs,AV.hf,az,hF]
theorem EO(l:Ln)(x:Bool):(bI l x)[2]? =some (.vsl 3 x (l.ps.map aH)):=by unfold bI;cases aD (small l.n)<;>rfl
theorem EP(l:Ln)(x:Bool):(bI l x)[7]? =some (.str (small l.n)):=by unfold bI;cases aD (small l.n)<;>rfl
theorem ER{l:Ln}{k:Kd}(h:aD (small l.n)=some k)(x:Bool):(bI l x)[4]? =some (fsV k):=by unfold bI;rw[h];rfl
theorem ES{l:Ln}{k:Kd}(h:aD (small l.n)=some k)(x:Bool):(bI l x)[6]? =some (.bool k.many):=by unfold bI;rw[h];rfl
theorem wV(l:Ln)(x:Bool):(bI l x).take 4=[.str l.g,.str l.n,.vsl 3 x (l.ps.map aH),.str l.v]:=by unfold bI;cases aD (small l.n)<;>rfl
theorem zN(l:Ln):(bI l l.x).set 2 (.vsl 3 false (l.ps.map aH))=bI l false:=by unfold bI;cases aD (small l.n)<;>rfl
theorem nf{l:Ln}{k:Kd}(h:aD (small l.n)=some k):AV.agg (bI l false)=encS (bare l) k (small l.n):=by unfold bI;rw[h];rfl
structure JS (A:List OB) (b:Nat) (T:List (Nat×AV)) (ver:Bytes) (c:List Val) (l:Ln) (ov:AV) (L:List (Ln×Bool)) (vs:List AV) (xs:Nat→List Bytes) (th:List Bytes):Prop where
 b10:10≤b
 len:b<A.length
 con:A[1]? =some (.cells (c.map av) false)
 grow:dB A ver ov L vs xs
 fn:A[4]? =some (.cells [pX] false)
 th:A[6]? =some (my th)
 thc:A[7]? =some (.cells [.map 6] false)
 dfr:A[8]? =some .dfr
 loop:A[9]? =some (.loop T kbL)
 said:A[b]? =some (.cells (bI l false) false)
noncomputable def rsL:Code:=match bdL with
 | .block _ (.seq _ r)=>r
 |_=>.skip
theorem Ch{K:List OB}{S:List AV}(h:S.length=8)(hc:S.all AV.isC=true):aE Tryz.prog 68 (.ptr K.length 0) (.agg S) (K++[.cells [.str [],.str [],.nilsl,.str [],.nilsl,.bool false,.bool false,.str []] false])=some (K++[.cells S false]):=sV h hc rfl
set_option maxRecDepth 8000 in
theorem sY{ver:Bytes}{c:List Val}{ls:List Ln}{i:Nat}{l:Ln}{K:List OB}(b:Bool)(hps:l.ps.length≤1000000)(hJ:jL ver c ls i K):
    ∃ T A ov vs,aB T [(3,.ptr 1 0),(6,.ptr 4 0),(7,.ptr 5 0),(8,.ptr 7 0)]∧JS A K.length T ver c l ov (ei c (ls.take i)) vs (bX c (ls.take i)) (bf c (ls.take i))∧A.length=K.length+1∧
      ∀out K',(∀l',W Tryz.prog 162 K.length (some l') rsL (bl 1 (vS 9 out K')) ⟨[(9,.ptr K.length 0),(10,.bool b),(3,.ptr 1 0),(6,.ptr 4 0),(7,.ptr 5 0),(8,.ptr 7 0)],A,[]⟩)→YFn Tryz.prog 9 [dq l,.bool b] K out K':=by
  obtain⟨h1,⟨ov,vs,h2⟩,h4,h6,h7,h8,T,h9,hT⟩:=hJ;have l9:=(List.getElem?_eq_some_iff.1 h9).1;obtain⟨M,hM⟩: ∃M,M=(K++[OB.cells (bI l l.x) false]).set 9 (.loop T kbL):=⟨_,rfl⟩
  have lM:M.length=K.length+1:=by rw[hM];simp
  have gM: ∀j o,j≠9→K[j]? =some o→M[j]? =some o:=by
    intro j o hj ho;rw[hM,List.getElem?_set_ne (by omega)];exact aV ho
  have gM9:M[9]? =some (.loop T kbL):=by rw[hM,List.getElem?_set_self (by simp;omega)]
  have gS:M[K.length]? =some (.cells (bI l l.x) false):=by rw[hM,List.getElem?_set_ne (by omega),List.getElem?_concat_length]
  obtain⟨A,hA⟩: ∃A,A=M.set K.length (.cells (bI l false) false):=⟨_,rfl⟩
  have gA: ∀j o,j≠K.length→M[j]? =some o→A[j]? =some o:=by
    intro j o hj ho;rw[hA,List.getElem?_set_ne (by omega)];exact ho
  have gKA: ∀j o,j≠9→K[j]? =some o→A[j]? =some o:=fun j o hj ho=>gA j o (by have:=(List.getElem?_eq_some_iff.1 ho).1;omega) (gM j o hj ho);have hgr:dB A ver ov (ei c (ls.take i)) vs (bX c (ls.take i)):=by
    rw[hA];refine dB.set ?_ _ gS (fun cs e=>by cases e) (by omega) (by omega);rw[hM];exact(h2.more _).set _ (aV h9) (fun cs e=>by cases e) (by omega) (by omega)
  refine⟨T,A,ov,vs,hT,⟨by omega,by rw[hA,List.length_set];omega,gKA 1 _ (by omega) h1,hgr,gKA 4 _ (by omega) h4,gKA 6 _ (by omega) h6,gKA 7 _ (by omega) h7,gKA 8 _ (by omega) h8,gA 9 _ (by omega) gM9,by rw[hA,List.getElem?_set_self (by omega)]⟩,by rw[hA,List.length_set,lM],?_⟩;intro out K' hbody;refine YFn.of h9 (by simp[lkL]) fun l'=> ?_;show W Tryz.prog 162 _ _ (.seq (.region 6 _ _) (.region 7 _ _)) _ ⟨(30,.bool b)::(29,dq l)::T,K,[]⟩;have hst:=Ch (K:=K) (kp l l.x) (zM l l.x);rw[Cg];refine .vc (by decide) ?_
  repeat'(first|(simp(disch:=first|omega|(simp only[zL];omega))only[go_sem,seval,hst]))
  refine⟨T,lkL,aV h9,rfl,?_⟩;rw[show({lkL with st:=.busy}:cN)=kbL from rfl];show W Tryz.prog 162 _ _ (.block 1 (.seq (.region 8 _ _) rsL)) _ ⟨(10,.bool b)::(9,.ptr K.length 0)::(30,.bool b)::(29,.agg (bI l l.x))::T,(K++[OB.cells (bI l l.x) false]).set 9 _,_⟩;rw[←hM];obtain⟨e3,e6,e7,e8,_⟩:=hT;refine .block (.seq (W.bQ [(10,.bool b),(9,.ptr K.length 0),(3,.ptr 1 0),(6,.ptr 4 0),(7,.ptr 5 0),(8,.ptr 7 0)] ⟨rfl,rfl,by simpa[Av.get]using e3,by simpa[Av.get]using e6,by simpa[Av.get]using e7,by simpa[Av.get]using e8,trivial⟩ (.vc (by decide) ?_)))
  have k1:al Tryz.prog 44 (.ptr K.length 2) M=some (.vsl 3 l.x (l.ps.map aH)):=by simp[oW,ldC,gS,EO]
  have k2:aE Tryz.prog 44 (.ptr K.length 2) (.vsl 3 false (l.ps.map aH)) M=some A:=by
    rw[IG,hA];simp only[stC,gS];rw[if_pos ⟨rfl,by rw[kp];decide,rfl⟩];simp only[AV.cells,cm,zN]
  have hcp:=HR l.x l.ps hps;have hph:=az l.ps;generalize hP:l.ps.map aH=P at*
  repeat'(first|(simp(disch:=first|omega|(simp only[zL];omega))only[go_sem,seval,k1,k2])|((with_reducible first|apply aj.pure|apply an.pure);(with_reducible exact hcp);(first|rfl|simp only[go_sem,hph])))
  refine W.bQ _ ?_ (hbody l');exact⟨rfl,rfl,rfl,rfl,rfl,rfl,trivial⟩
theorem yr {ver:Bytes} {c:List Val} {ls:List Ln} {i:Nat} {N:List OB} {T:List (Nat×AV)} {ov:AV} {vs:List AV} (hT:aB T [(3,.ptr 1 0),(6,.ptr 4 0),(7,.ptr 5 0),(8,.ptr 7 0)]) (h1:N[1]? =some (.cells (c.map av) false)) (h2:dB N ver ov (ei c (ls.take i)) vs (bX c (ls.take i)))
    (h4:N[4]? =some (.cells [pX] false)) (h6:N[6]? =some (my (bf c (ls.take i)))) (h7:N[7]? =some (.cells [.map 6] false)) (h8:N[8]? =some .dfr) (h9:N[9]? =some (.loop T kbL)):jL ver c ls i (N.set 9 (.loop T lkL)):=by
  have l9:=(List.getElem?_eq_some_iff.1 h9).1;have g: ∀j o,j≠9→N[j]? =some o→(N.set 9 (.loop T lkL))[j]? =some o:=fun j o hj ho=>by rw[List.getElem?_set_ne (by omega)];exact ho
  exact⟨g 1 _ (by omega) h1,⟨ov,vs,h2.set _ h9 (fun cs e=>by cases e) (by omega) (by omega)⟩,g 4 _ (by omega) h4,g 6 _ (by omega) h6,g 7 _ (by omega) h7,g 8 _ (by omega) h8,T,by rw[List.getElem?_set_self l9],hT⟩
theorem pY{k:Kd}{c:List Val}{b:Nat}(hf8:∀f∈k.fs,f<8)(h:∀f,f<8→∀s∈ar c f,s.length≤b):∀w∈bw k c,w.length≤b:=by
 intro w hw;obtain⟨f,hf,rfl⟩:=List.mem_map.1 hw;have:=h f (hf8 f hf);cases hl:ar c f with
 |nil=>simp[hdB]
 |cons a t=>rw[hl]at this;exact this a (by simp)
theorem Ci{m:Bytes}{k:Kd}(hk:aD m=some k)(l:Ln)(n:Bytes)(c:List Val)(hc:c.length=8)(hv:l.v.length≤900000)(hcb: ∀f,f<8→ ∀s∈ar c f,s.length≤1000000):
    aa Tryz.prog 57 [encS l k n,.agg (c.map av)] (.ret (.tup [aq (cK l k c).1,.bool (cK l k c).2])):=by
  obtain⟨k1,k2,k3,k4,k5⟩:=gH hk;unfold cK;by_cases hm:k.many=true
  · rw[if_pos hm]
    obtain⟨f,hf,_⟩:=k5 hm;have:=k2 f (by rw[hf];simp);obtain⟨fs,b,mm⟩:=k;simp only at hf hm;subst hf;subst hm;exact zE l f b n c hc this (by omega)
  · rw[if_neg hm]
    have hm':k.many=false:=by simpa using hm
    by_cases he:ba k l.v=bw k c
    · rw[if_pos he]
      exact zF l k n c hc (by omega) k2 hm' (by omega) he
    · rw[if_neg he]
      exact B8 l k n c hc (by omega) k2 hm' hv he (pY k2 hcb)
theorem wW{c:List Val}{l:Ln}(h:aD (small l.n)=none):bq c l=(bare l,true):=by unfold bq;rw[h];rfl
theorem pZ{c:List Val}{l:Ln}{k:Kd}(h:aD (small l.n)=some k):bq c l=cK (bare l) k c:=by unfold bq;rw[h];rfl
theorem ET{A:List OB}{b:Nat}{S:List AV}{l:Ln}(h:A[b]? =some (.cells (bI l false) false)):al Tryz.prog 46 (.ptr b 0) A=some (aq (bare l)):=by
 have:(bI l false).length=8:=kp l false;simp only[vZ,ldG,h];rw[if_pos (by omega),List.drop_zero,wV];rfl
theorem sZ{A:List OB}{b:Nat}{l:Ln}(h:A[b]? =some (.cells (bI l false) false)):al Tryz.prog 68 (.ptr b 0) A=some (.agg (bI l false)):=by
 have:(bI l false).length=8:=kp l false;simp only[Gs,ldG,h];rw[if_pos (by omega),List.drop_zero,List.take_of_length_le (by omega)]
theorem fu{A:List OB}{b:Nat}{c:List Val}{o:Bool}(h:A[b]? =some (.cells (c.map av) o))(hc:c.length=8):al Tryz.prog 27 (.ptr b 0) A=some (.agg (c.map av)):=by
 simp only[gQ,ldG,h];rw[if_pos (by simp[hc]),List.drop_zero,List.take_of_length_le (by simp[hc])]
theorem uW{A:List OB}{b:Nat}{v:AV}{o:Bool}(h:A[b]? =some (.cells [v] o)):al Tryz.prog 93 (.ptr b 0) A=some v:=by
 simp[IQ,ldC,h]
theorem ta{A:List OB}(l:Ln):aE Tryz.prog 46 (.ptr A.length 0) (aq l) (A++[.cells [.str [],.str [],.nilsl,.str []] false])=some (A++[.cells [.str l.g,.str l.n,.vsl 3 l.x (l.ps.map aH),.str l.v] false]):=by
 rw[vY];simp[stC,aq,AV.cells,AV.isC,cm]
set_option maxRecDepth 8000 in
theorem uX{ver:Bytes}{c:List Val}{ls:List Ln}{i:Nat}{l:Ln}{K:List OB}(hl:ls[i]? =some l)(hi:i<900000)(hps:l.ps.length≤1000000)(hk:aD (small l.n)=none)(hJ:jL ver c ls i K):
    ∃K',YFn Tryz.prog 9 [dq l,.bool false] K (.ret (.bool true)) K'∧jL ver c ls (i+1) K':=by
  obtain⟨T,A,ov,vs,hT,hB,hAl,hY⟩:=sY false hps hJ;have hol:(ei c (ls.take i)).length<1000000:=by have:=pW c (ls.take i);simp at this;omega
  obtain⟨N,ov',hsh,hg,hN,hkeep⟩:=hB.grow.add (bare l,false) hol;have gN: ∀j o,j≠3→(∀cs,o≠OB.cells cs true)→A[j]? =some o→N[j]? =some o:=fun j o h1 h2 h3=>hkeep j o h1 h3 h2;have gN9:=gN 9 _ (by omega) (fun cs e=>by cases e) hB.loop;refine⟨N.set 9 (.loop T lkL),hY _ _ fun l'=> ?_,?_⟩
  · have k1:=uW hB.fn
    have k2:=ET (S:=[]) hB.said;have k3:=uU (bare l,false);rw[←sX]at k2;show W Tryz.prog 162 _ _ (.seq (.seq (.region 9 _ _) _) _) _ _;generalize bV (bare l,false)=Q at*;refine .vc (by decide) ?_
    repeat'(first|(simp(disch:=first|omega|(simp only[zL];omega))only[go_sem,seval,k1,k2,k3])|(guard_target=~ aj _ _ _ _ _ _ _;refine aj.sh hsh ?_))
    exact⟨T,kbL,gN9,rfl,rfl⟩
  · have e1:ei c (ls.take (i+1))=ei c (ls.take i)++[(bare l,false)]:=by rw[nb hl,wW hk];rfl
    have e2:bf c (ls.take (i+1))=bf c (ls.take i):=by rw[jP hl,uV,hk]
    have e3:bX c (ls.take (i+1))=bX c (ls.take i):=by funext f;rw[iW hl,kH,hk];simp
    refine yr hT (gN 1 _ (by omega) (fun cs e=>by cases e) hB.con) (by rw[e1,e3];exact hg) (gN 4 _ (by omega) (fun cs e=>by cases e) hB.fn) (by rw[e2];exact gN 6 _ (by omega) (fun cs e=>by cases e) hB.th) (gN 7 _ (by omega) (fun cs e=>by cases e) hB.thc) (gN 8 _ (by omega) (fun cs e=>by cases e) hB.dfr) gN9
set_option maxRecDepth 8000 in
theorem uY{ver:Bytes}{c:List Val}{ls:List Ln}{i:Nat}{l:Ln}{k:Kd}{K:List OB}(hc:c.length=8)(hcb: ∀f,f<8→ ∀s∈ar c f,s.length≤1000000)(hl:ls[i]? =some l)(hv:l.v.length≤900000)(hps:l.ps.length≤1000000)(hk:aD (small l.n)=some k)(hst:(bq c l).2=false)(hJ:jL ver c ls i K):
    ∃K',YFn Tryz.prog 9 [dq l,.bool true] K (.ret (.bool true)) K'∧jL ver c ls (i+1) K':=by
  obtain⟨T,A,ov,vs,hT,hB,hAl,hY⟩:=sY true hps hJ;have hld:=Ci hk (bare l) (small l.n) c hc hv hcb;rw[←pZ hk,hst,←nf hk]at hld;obtain⟨m,hm⟩: ∃m,m=(bq c l).1:=⟨_,rfl⟩
  rw[←hm]at hld;obtain⟨E,hE⟩: ∃E,E=OB.cells [.str m.g,.str m.n,.vsl 3 m.x (m.ps.map aH),.str m.v] false:=⟨_,rfl⟩
  have g: ∀j o,A[j]? =some o→(A++[E])[j]? =some o:=fun j o h=>aV h;refine⟨(A++[E]).set 9 (.loop T lkL),hY _ _ fun l'=> ?_,?_⟩
  · have k1:=sZ hB.said
    have k2:=fu hB.con hc;have k3:=ta (A:=A) m;rw[←hE]at k3;have hh1:=rn l false;have hh2:=aJ c;show W Tryz.prog 162 _ _ (.seq (.seq (.region 9 _ _) _) _) _ _;generalize bI l false=Sg at*;generalize aq m=Q at*;refine .vc (by decide) ?_
    repeat'(first|(simp(disch:=first|omega|(simp only[zL];omega))only[go_sem,seval,k1,k2,k3])|((with_reducible first|apply aj.pure|apply an.pure);(with_reducible exact hld);(first|rfl|simp only[go_sem,hh1,hh2])))
    exact⟨T,kbL,g 9 _ hB.loop,rfl,rfl⟩
  · have e1:ei c (ls.take (i+1))=ei c (ls.take i):=by rw[nb hl,hst];simp
    have e2:bf c (ls.take (i+1))=bf c (ls.take i):=by rw[jP hl,uV,hk,hst];rfl
    have e3:bX c (ls.take (i+1))=bX c (ls.take i):=by funext f;rw[iW hl,kH,hk,hst];simp
    exact yr hT (g 1 _ hB.con) (by rw[e1,e3];exact hB.grow.more _) (g 4 _ hB.fn) (by rw[e2];exact g 6 _ hB.th) (g 7 _ hB.thc) (g 8 _ hB.dfr) (g 9 _ hB.loop)
theorem dB.tell{H:List OB}{ver:Bytes}{ov:AV}{L:List (Ln×Bool)}{vs:List AV}{xs:Nat→List Bytes}(h:dB H ver ov L vs xs){f:Nat}(hf:f<8)(s:Bytes)(hl:(xs f).length<1000000):
    ∃ v M,al Tryz.prog 25 (.ptr 5 f) H=some v∧aG Tryz.prog 25 25 (deN v) (.vsl 0 true [.str s]) H=some (.sl H.length 0 ((xs f).length+1) 0,M)∧
      aE Tryz.prog 25 (.ptr 5 f) (.sl H.length 0 ((xs f).length+1) 0) M=some (M.set 5 (.cells (vs.set f (.sl H.length 0 ((xs f).length+1) 0)) false))∧
      dB (M.set 5 (.cells (vs.set f (.sl H.length 0 ((xs f).length+1) 0)) false)) ver ov L (vs.set f (.sl H.length 0 ((xs f).length+1) 0)) (kB xs f (xs f++[s]))∧
      ∀(j:Nat) (o:OB),H[j]? =some o→(∀cs,o≠OB.cells cs true)→M[j]? =some o:=by
  obtain⟨v,M,hv,hld,hap,hst,hc,hlen,hk⟩:=h.con.app hf s hl;have hk2: ∀j o,H[j]? =some o→(∀cs,o≠OB.cells cs true)→M[j]? =some o:=fun j o ho hn=>by rw[hk j (List.getElem?_eq_some_iff.1 ho).1 (h.con.free ho hn)];exact ho
  refine⟨v,M,hld,hap,hst,⟨by rw[List.getElem?_set_ne (by omega)];exact hk2 2 _ h.two (fun cs e=>by cases e),?_,?_,hc,?_⟩,hk2⟩
  · rw[List.getElem?_set_ne (by omega)];exact hk2 3 _ h.blk (fun cs e=>by cases e)
  · refine h.own.fm fun d n e=> ?_
    obtain⟨cs,hcs⟩:=h.own.lt e;have hd5:d≠5:=by rintro rfl;rw[h.con.blk]at hcs;injection(Option.some.inj hcs)with _ h;cases h
    rw[List.getElem?_set_ne (by omega),hk d (List.getElem?_eq_some_iff.1 hcs).1 (h.apart d n e)]
  · intro d n e g m hg
    obtain⟨cs,hcs⟩:=h.own.lt e;have hdl:=(List.getElem?_eq_some_iff.1 hcs).1;rw[List.getElem?_set]at hg;split at hg
    · split at hg
      · injection(Option.some.inj hg)with e1;omega
      · cases hg
    · exact h.apart d n e g m hg
theorem uZ{c:List Val}{ls:List Ln}{i:Nat}{l:Ln}{k:Kd}(hl:ls[i]? =some l)(hk:aD (small l.n)=some k)(hst:(bq c l).2=true):bf c (ls.take (i+1))=if small l.n∈bf c (ls.take i)then bf c (ls.take i)else bf c (ls.take i)++[small l.n]:=by
 rw[jP hl,uV,hk];simp only[hst,if_true]
set_option maxRecDepth 8000 in
theorem tb {ver:Bytes} {c:List Val} {ls:List Ln} {i:Nat} {l:Ln} {k:Kd} {K:List OB} (hc:c.length=8) (hcb: ∀f,f<8→ ∀s∈ar c f,s.length≤1000000) (hl:ls[i]? =some l) (hi:i<900000) (hv:l.v.length≤900000) (hps:l.ps.length≤1000000) (hk:aD (small l.n)=some k) (hst:(bq c l).2=true) (hJ:jL ver c ls i K):
    ∃K',YFn Tryz.prog 9 [dq l,.bool true] K (.ret (.bool true)) K'∧jL ver c ls (i+1) K':=by
  obtain⟨T,A,ov,vs,hT,hB,hAl,hY⟩:=sY true hps hJ;have hld:=Ci hk (bare l) (small l.n) c hc hv hcb;rw[←pZ hk,hst,←nf hk]at hld;have e1:ei c (ls.take (i+1))=ei c (ls.take i)++[((bq c l).1,false)]:=by rw[nb hl,hst];rfl
  obtain⟨m,hm⟩: ∃m,m=(bq c l).1:=⟨_,rfl⟩
  rw[←hm]at hld e1;obtain⟨E,hE⟩: ∃E,E=OB.cells [.str m.g,.str m.n,.vsl 3 m.x (m.ps.map aH),.str m.v] false:=⟨_,rfl⟩
  have hol:(ei c (ls.take i)).length<1000000:=by have:=pW c (ls.take i);simp at this;omega
  obtain⟨N,ov',hsh,hg,hN,hkeep⟩:=(hB.grow.more [E]).add (m,false) hol;have gN: ∀j o,j≠3→(∀cs,o≠OB.cells cs true)→A[j]? =some o→N[j]? =some o:=fun j o h1 h2 h3=>hkeep j o h1 (aV h3) h2;have gN6:=gN 6 _ (by omega) (fun cs e=>by cases e) hB.th;obtain⟨N2,hN2⟩: ∃N2,N2=N.set 6 (my (bf c (ls.take (i+1)))):=⟨_,rfl⟩
  have k5:=uS gN6 (small l.n);rw[←uZ hl hk hst,←hN2]at k5;have gN2: ∀j o,j≠6→N[j]? =some o→N2[j]? =some o:=fun j o h1 h2=>by rw[hN2,List.getElem?_set_ne (by omega)];exact h2
  have gA2: ∀j o,j≠3→j≠6→(∀cs,o≠OB.cells cs true)→A[j]? =some o→N2[j]? =some o:=fun j o h1 h6 h2 h3=>gN2 j o h6 (gN j o h1 h2 h3);have hg2:dB N2 ver ov' (ei c (ls.take (i+1))) vs (bX c (ls.take i)):=by rw[hN2,e1];exact hg.set _ gN6 (fun cs e=>by cases e) (by omega) (by omega)
  have g26:N2[6]? =some (my (bf c (ls.take (i+1)))):=by rw[hN2,List.getElem?_set_self (List.getElem?_eq_some_iff.1 gN6).1]
  have gb2:N2[K.length]? =some (.cells (bI l false) false):=gA2 _ _ (by have:=hB.b10;omega) (by have:=hB.b10;omega) (fun cs e=>by cases e) hB.said;have k1:=sZ hB.said;have k2:=fu hB.con hc;have k3:=ta (A:=A) m;rw[←hE]at k3;have k4:al Tryz.prog 93 (.ptr 4 0) (A++[E])=some pX:=uW (aV hB.fn);have k6:al Tryz.prog 46 (.ptr A.length 0) (A++[E])=some (aq m):=by
    simp only[vZ,ldG,hE,List.getElem?_concat_length];rfl
  have k7:=uU (m,false);rw[sX]at k7;have k8:al Tryz.prog 60 (.ptr 7 0) N=some (.map 6):=by simp[zb,ldC,gN 7 _ (by omega) (fun cs e=>by cases e) hB.thc]
  have gbN:N[K.length]? =some (.cells (bI l false) false):=gN _ _ (by have:=hB.b10;omega) (fun cs e=>by cases e) hB.said;have k9:al Tryz.prog 9 (.ptr K.length 7) N=some (.str (small l.n)):=by simp[ld9,ldC,gbN,EP]
  have k10:al Tryz.prog 4 (.ptr K.length 6) N2=some (.bool k.many):=by simp[ld4,ldC,gb2,ES hk]
  have hh1:=rn l false;have hh2:=aJ c;rw[sX]at hsh;by_cases hmy:k.many=true
  · obtain⟨kl,kf,_,_,km⟩:=gH hk
    obtain⟨f,hf,hf6⟩:=km hmy;have hf8:f<8:=kf f (by rw[hf];simp);obtain⟨s,hs⟩: ∃s,s=(ba k l.v).headD []:=⟨_,rfl⟩
    have hvl:(ba k l.v)[0]? =some s:=by
      have:(ba k l.v).length=1:=by simp[ba,hf]
      obtain⟨a,ha⟩:=List.length_eq_one_iff.1 this;rw[hs,ha];rfl
    have htl:(bX c (ls.take i) f).length<1000000:=by have:=zK c (ls.take i) f;simp at this;omega
    obtain⟨v,M,q1,q2,q3,hg3,q4⟩:=hg2.tell hf8 s htl;have e3:bX c (ls.take (i+1))=kB (bX c (ls.take i)) f (bX c (ls.take i) f++[s]):=by
      funext g;rw[iW hl,kH,hk];simp only[hst,hmy,hf,List.headD_cons,Bool.true_and];unfold kB;by_cases hgf:g=f
      · subst hgf;simp[hs]
      · rw[if_neg hgf,if_neg (by simp;omega)];simp
    rw[←e3]at hg3;obtain⟨N3,hN3⟩: ∃N3,N3=M.set 5 (.cells (vs.set f (.sl N2.length 0 ((bX c (ls.take i) f).length+1) 0)) false):=⟨_,rfl⟩
    rw[←hN3]at hg3 q3;have g3: ∀j o,j≠5→(∀cs,o≠OB.cells cs true)→N2[j]? =some o→N3[j]? =some o:=fun j o h1 h2 h3=>by rw[hN3,List.getElem?_set_ne (by omega)];exact q4 j o h3 h2
    have gA3: ∀j o,j≠3→j≠5→j≠6→(∀cs,o≠OB.cells cs true)→A[j]? =some o→N3[j]? =some o:=fun j o h1 h5 h6 h2 h3=>g3 j o h5 h2 (gA2 j o h1 h6 h2 h3);have g39:=gA3 9 _ (by omega) (by omega) (by omega) (fun cs e=>by cases e) hB.loop;refine⟨N3.set 9 (.loop T lkL),hY _ _ fun l'=> ?_,?_⟩
    · have hlf: ∀X:List OB,X[K.length]? =some (.cells (bI l false) false)→al Tryz.prog 64 (.ptr K.length 4) X=some (fsV k):=by
        intro X hX;simp[Gj,ldC,hX,ER hk]
      have gbM:M[K.length]? =some (.cells (bI l false) false):=q4 _ _ gb2 (fun cs e=>by cases e);have p1:=hlf _ gb2;have p2:=hlf _ gbM;have p3: ∀X,ah Tryz.prog 64 (fsV k) (.int .i64 0) X=some (.vptr [.int .i64 (f:Int)]):=fun X=>zk (v:=.int .i64 (f:Int)) (by simp[hf]) rfl X;have p4:=eG 5 f hf8;have p5:=mq (bare l) k (small l.n) (by show l.v.length≤_;omega) (by omega);rw[←nf hk]at p5;have p6: ∀X,ah Tryz.prog 25 (.vsl 0 false ((ba k (bare l).v).map .str)) (.int .i64 0) X=some (.vptr [.str s]):=fun X=>dW (v:=.str s) (by show((ba k l.v).map AV.str)[0]? =_;simp[hvl]) rfl X;have p7:=sZ gb2
      rw[hmy]at k10;have hde:deN (AV.sl N2.length 0 ((bX c (ls.take i) f).length+1) 0)=.sl N2.length 0 ((bX c (ls.take i) f).length+1) 0:=rfl;show W Tryz.prog 162 _ _ (.seq (.seq (.region 9 _ _) _) _) _ _;generalize(AV.sl N2.length 0 ((bX c (ls.take i) f).length+1) 0)=v2 at*;generalize bI l false=Sg at*;generalize aq m=Q at*;generalize fsV k=Fk at*;generalize ba k (bare l).v=Vk at*;refine .vc (by decide) ?_
      repeat'(first|(simp(disch:=first|omega|(simp only[zL];omega))only[go_sem,seval,k1,k2,k3,k4,k5,k6,k7,k8,k9,k10])|(guard_target=~ aj _ _ _ _ _ _ _;refine aj.sh hsh ?_)|((with_reducible first|apply aj.pure|apply an.pure);(with_reducible exact hld);(first|rfl|simp only[go_sem,hh1,hh2])))
      refine W.aO [17,19] [false,false,false,false,false,false,false,false,false,false,false,false,false,false,false,false,false,true,false,true] [(2,18),(3,18),(4,18)] mixed (by kernel_rfl) (by kernel_rfl) (by kernel_rfl) ?_
      repeat'(first|(simp(disch:=first|omega|(simp only[zL];omega))only[go_sem,seval,kU,p1,p2,p3,p4,p6,p7,q1,q2,q3,hde])|((with_reducible first|apply aj.pure|apply an.pure);(with_reducible exact p5);(first|rfl|simp only[go_sem,hh1])))
      exact⟨T,kbL,g39,rfl,rfl⟩
    · exact yr hT (gA3 1 _ (by omega) (by omega) (by omega) (fun cs e=>by cases e) hB.con) hg3 (gA3 4 _ (by omega) (by omega) (by omega) (fun cs e=>by cases e) hB.fn) (g3 6 _ (by omega) (fun cs e=>by cases e) g26)
        (gA3 7 _ (by omega) (by omega) (by omega) (fun cs e=>by cases e) hB.thc) (gA3 8 _ (by omega) (by omega) (by omega) (fun cs e=>by cases e) hB.dfr) g39
  · have hmy':k.many=false:=by simpa using hmy
    rw[hmy']at k10;have g29:=gA2 9 _ (by omega) (by omega) (fun cs e=>by cases e) hB.loop;refine⟨N2.set 9 (.loop T lkL),hY _ _ fun l'=> ?_,?_⟩
    · show W Tryz.prog 162 _ _ (.seq (.seq (.region 9 _ _) _) _) _ _
      generalize bI l false=Sg at*;generalize aq m=Q at*;refine .vc (by decide) ?_
      repeat'(first|(simp(disch:=first|omega|(simp only[zL];omega))only[go_sem,seval,k1,k2,k3,k4,k5,k6,k7,k8,k9,k10])|(guard_target=~ aj _ _ _ _ _ _ _;refine aj.sh hsh ?_)|((with_reducible first|apply aj.pure|apply an.pure);(with_reducible exact hld);(first|rfl|simp only[go_sem,hh1,hh2])))
      exact⟨T,kbL,g29,rfl,rfl⟩
    · have e3:bX c (ls.take (i+1))=bX c (ls.take i):=by funext f;rw[iW hl,kH,hk];simp[hmy']
      rw[←e3]at hg2;exact yr hT (gA2 1 _ (by omega) (by omega) (fun cs e=>by cases e) hB.con) hg2 (gA2 4 _ (by omega) (by omega) (fun cs e=>by cases e) hB.fn) g26 (gA2 7 _ (by omega) (by omega) (fun cs e=>by cases e) hB.thc) (gA2 8 _ (by omega) (by omega) (fun cs e=>by cases e) hB.dfr) g29
/-! ### Plain -/
def aP:List Bytes:=[nFN,nN,ct,bg,bx]
def jg(c:List Val)(n:Bytes):List Bytes:=match aD n with|some k=>bw k c|none=>[]
def gZ(c:List Val)(n:Bytes):Bytes:=Lib.join ((jg c n).map esc++(if n=nN then [[],[],[]]else [])) [59]
def lnN(n v:Bytes):Ln×Bool:=(⟨[],n,true,[],v⟩,true)
def lf(th:List Bytes)(c:List Val)(n:Bytes):List (Ln×Bool):=if inB n th=true∨(jg c n).flatten=[]then []else [lnN n (gZ c n)]
def dK(th:List Bytes)(c:List Val)(ns:List Bytes):List (Ln×Bool):=ns.flatMap (lf th c)
theorem wX{th:List Bytes}{c:List Val}{ns:List Bytes}{i:Nat}{n:Bytes}(h:ns[i]? =some n):dK th c (ns.take (i+1))=dK th c (ns.take i)++lf th c n:=by
 rw[List.take_add_one,h,dK,List.flatMap_append];simp[dK]
theorem Cj(th:List Bytes)(c:List Val)(n:Bytes):(lf th c n).length≤1:=by unfold lf;split<;>simp
theorem rp(th:List Bytes)(c:List Val)(ns:List Bytes):(dK th c ns).length≤ns.length:=by
 induction ns with
 |nil=>simp[dK]
 |cons n ns ih=>have:=Cj th c n;simp only[dK,List.flatMap_cons,List.length_append,List.length_cons]at ih ⊢;omega
theorem va{i:Nat}{n:Bytes}(h:aP[i]? =some n):∃k,aD n=some k∧k.many=false∧jg=jg∧(n=nN→k.fs.length=2):=by
 match i,h with
 |0,h=>cases h;exact⟨_,rfl,rfl,rfl,by decide⟩
 |1,h=>cases h;exact⟨_,rfl,rfl,rfl,by decide⟩
 |2,h=>cases h;exact⟨_,rfl,rfl,rfl,by decide⟩
 |3,h=>cases h;exact⟨_,rfl,rfl,rfl,by decide⟩
 |4,h=>cases h;exact⟨_,rfl,rfl,rfl,by decide⟩
 |i+5,h=>simp[aP]at h
/-! ### Pieces -/
theorem Ck(n:Bytes)(H:List OB):di Tryz.prog 97 (.vmap (fk.map .str) fZ) (.str n) false H=some (.agg (kdL (aD n))):=by
 have h:=kn n;generalize aD n=o at h ⊢;cases h with
 |none _ h1 h2 h3 h4 h5 h6 h7=>
  have e:∀m,n≠m→(n==m)=false:=fun m h=>by simp[h]
  simp[di,ulK,Tryz.underlying9,zaK,oD,fk,fB,jq,e _ h1,e _ h2,e _ h3,e _ h4,e _ h5,e _ h6,e _ h7,kdL]
 |_=>simp[di,ulK,Tryz.underlying9,zaK,oD,fk,fZ,fB,jq,nFN,nN,ct,bg,bx,bm,cE,kdL,sP,fsV]
theorem wY(k:Kd):AV.hf (fsV k)=true:=by
 rw[fsV,AV.hf,be,List.all_eq_true];intro v hv;obtain⟨l,_,rfl⟩:=List.mem_map.1 hv;rfl
theorem JT{m:Bytes}{k:Kd}(hk:aD m=some k)(c:List Val)(hc:c.length=8)(H:List OB):
    bF Tryz.prog 58 [.agg [fsV k,.bool k.parts,.bool k.many],.agg (c.map av)] H (.ret (.sl H.length 0 (bw k c).length 0)) (H++[.cells ((bw k c).map .str) true]):=by
  obtain⟨k1,k2,k3,k4,k5⟩:=gH hk;have hne:bw k c≠ []:=by
    intro e;have:=congrArg List.length e;simp[bw]at this;exact k4 this
  have hh:AV.hfs [.agg [fsV k,.bool k.parts,.bool k.many],.agg (c.map av)]=true:=by
    simp only[AV.hfs,wY,AV.hf,aJ,Bool.and_self]
  refine bt.one ((bt.frame hh ((yi k c hc (by omega) k2).mono fun o K h=>fj h)).mono ?_);rintro o K (⟨r,rfl,hr,⟨e,rfl⟩,rfl⟩|⟨off,len,wd,cs,opn,rfl,hcs,⟨rfl,rfl,rfl,rfl,rfl⟩,rfl⟩)
  · exact(hne e).elim
  · exact⟨rfl,rfl⟩
theorem Cm{H:List OB}{d:Nat}{l:List Bytes}{o:Bool}{out:Out}(h:H[d]? =some (.cells (l.map .str) o))(ho:out.scalar=true):aX H [.sl d 0 l.length 0] out=some [.vsl 0 false (l.map .str)]:=by
 refine dG rfl ho ?_;have:=jJ (k:=19) h (Nat.le_refl _);rw[List.take_length]at this;simp only[List.mapM_cons,List.mapM_nil,this];rfl
theorem rq{H:List OB}{d:Nat}{l:List Bytes}{o:Bool}{s:Bytes}{out:Out}(h:H[d]? =some (.cells (l.map .str) o))(ho:out.scalar=true):aX H [.sl d 0 l.length 0,.str s] out=some [.vsl 0 false (l.map .str),.str s]:=by
 refine dG rfl ho ?_;have:=jJ (k:=19) h (Nat.le_refl _);rw[List.take_length]at this;simp only[List.mapM_cons,List.mapM_nil,this,cJ (show AV.hf (.str s)=true from rfl)];rfl
theorem JU{H:List OB}{d:Nat}{a:List Bytes}(hd:H[d]? =some (.cells (a.map .str) true))(ha:a.length=2):mM Tryz.prog 25 3 (.sl d 0 2 0) (.int .i64 3) H=some (.sl H.length 0 5 0,H.set d .dead++[.cells ((a++[[],[],[]]).map .str) true]):=by
 have hi:xu Tryz.prog 3=true:=by kernel_rfl
 simp only[mM,Tryz.underlying25,hi,ik,FJ,hd];rw[if_pos (by simp[ha,AV.cells,AV.isC,esz])];simp[rep,AV.cells,List.replicate]
theorem bdQ(n v:Bytes):cB Tryz.prog 46 [(1,.str n),(3,.str v)]=some (bV (lnN n v)):=by kernel_rfl
noncomputable def lp2:Code:=match Tryz.f26.body with
 |some (.seq _ (.seq _ (.seq _ (.seq _ (.seq _ (.seq _ (.seq (.seq _ (.block _ (.loop c))) _)))))))=>c
 |_=>.skip
noncomputable def lp6:Code:=match Tryz.f26.body with
 |some (.seq _ (.seq _ (.seq _ (.seq _ (.seq _ (.seq _ (.seq _ (.seq (.seq _ (.block _ (.loop c))) _))))))))=>c
 |_=>.skip
abbrev T1:List (Nat×AV):=[(3,.ptr 1 0),(4,.ptr 2 0),(5,.ptr 3 0),(6,.ptr 4 0),(7,.ptr 5 0),(8,.ptr 7 0)]
abbrev T2(i:Nat):List (Nat×AV):=(83,.int .i64 (i:Int))::(82,.int .i64 5)::(81,.vsl 0 true (aP.map .str))::T1
structure qa (H:List OB) (c:List Val) (ver:Bytes) (L:List (Ln×Bool)) (xs:Nat→List Bytes) (th:List Bytes):Prop where
 con:H[1]? =some (.cells (c.map av) false)
 grow:∃ov vs,dB H ver ov L vs xs
 fn:H[4]? =some (.cells [pX] false)
 th:H[6]? =some (my th)
 thc:H[7]? =some (.cells [.map 6] false)
 dfr:H[8]? =some .dfr
theorem qa.fm{H K:List OB}{c:List Val}{ver:Bytes}{L:List (Ln×Bool)}{xs:Nat→List Bytes}{th:List Bytes}(h:qa H c ver L xs th)(hk:∀(j:Nat) (o:OB),H[j]? =some o→K[j]? =some o):qa K c ver L xs th:=by
 obtain⟨ov,vs,hg⟩:=h.grow;exact⟨hk _ _ h.con,⟨ov,vs,hg.fm fun j o hj _=>hk j o hj⟩,hk _ _ h.fn,hk _ _ h.th,hk _ _ h.thc,hk _ _ h.dfr⟩
theorem qa.add{H:List OB}{c:List Val}{ver:Bytes}{L:List (Ln×Bool)}{xs:Nat→List Bytes}{th:List Bytes}(h:qa H c ver L xs th)(q:Ln×Bool)(hl:L.length<1000000):
    ∃N,bF Tryz.prog 55 [.vsl 5 true [bV q],.ptr 3 0] H (.ret (.tup [])) N∧qa N c ver (L++[q]) xs th:=by
  obtain⟨ov,vs,hg⟩:=h.grow;obtain⟨N,ov',hsh,hg',_,hk⟩:=hg.add q hl;exact⟨N,hsh,hk 1 _ (by omega) h.con (fun cs e=>by cases e),⟨ov',vs,hg'⟩,hk 4 _ (by omega) h.fn (fun cs e=>by cases e),hk 6 _ (by omega) h.th (fun cs e=>by cases e),hk 7 _ (by omega) h.thc (fun cs e=>by cases e),hk 8 _ (by omega) h.dfr (fun cs e=>by cases e)⟩
def inv2(c:List Val)(ver:Bytes)(L:List (Ln×Bool))(xs:Nat→List Bytes)(th:List Bytes)(i:Nat)(a:St):Prop:=aB a.T (T2 i)∧qa a.H c ver (L++dK th c (aP.take i)) xs th∧a.D=[.mark 8]∧i≤5
theorem EU{c:List Val}{n:Bytes}{k:Kd}(hk:aD n=some k):jg c n=bw k c:=by unfold jg;rw[hk]
set_option maxRecDepth 8000 in
theorem JV {c:List Val} {ver:Bytes} {L:List (Ln×Bool)} {xs:Nat→List Bytes} {th:List Bytes} {Q:Ex→St→Prop} {a:St} (hc:c.length=8) (hcb: ∀f,f<8→ ∀s∈ar c f,s.length≤1000000) (hL:L.length≤900000) (h:inv2 c ver L xs th 0 a)
    (hQ: ∀a',inv2 c ver L xs th 5 a'→Q .normal a'):W Tryz.prog 162 0 none (.loop lp2) (bl 2 Q) a:=by
  refine W.loop (X:=Nat) (fun i a=>inv2 c ver L xs th i a) (fun i=>5 - i) 0 h ?_;clear h a;rintro i ⟨T,H,D⟩ ⟨hT,hI,rfl,hi⟩;simp only at hT hI;refine W.bQ _ hT ?_;show W Tryz.prog 162 0 none (.seq (.region 18 _ _) (.seq (.cond _ .skip (.exit 2)) _)) _ _;by_cases h:i<5
  · obtain ⟨n,hn,_⟩:=drop_at (show i<aP.length from h)
    obtain⟨k,hk,hm,_,hnn⟩:=va hn;obtain⟨k1,k2,k3,k4,k5⟩:=gH hk;have hw:=EU (c:=c) hk;have hwd:=JT hk c hc H;have hwl:(bw k c).length=k.fs.length:=by simp[bw]
    have hwb:=pY k2 hcb;have hnt:=wX (th:=th) (c:=c) hn;have hnl:(dK th c (aP.take i)).length≤5:=by have:=rp th c (aP.take i);simp at this;have:aP.length=5:=rfl;omega
    have hia: ∀X,ah Tryz.prog 25 (.vsl 0 true (aP.map .str)) (.int .i64 (i:Int)) X=some (.vptr [.str n]):=fun X=>dW (v:=.str n) (by simp[hn]) rfl X;have hkv:=wP;have hlk:=Ck n;rw[hk,mz]at hlk;obtain⟨ws,hws⟩: ∃ws,ws=bw k c:=⟨_,rfl⟩
    rw[←hws]at hwd hwl hwb hw;have p1:=fu hI.con hc;have hh1:=aJ c;have hh2:=wY k;obtain⟨H1,hH1⟩: ∃H1,H1=H++[OB.cells (ws.map .str) true]:=⟨_,rfl⟩
    rw[←hH1]at hwd;have hI1:qa H1 c ver (L++dK th c (aP.take i)) xs th:=hI.fm fun j o hj=>by rw[hH1];exact aV hj
    have g1:H1[H.length]? =some (.cells (ws.map .str) true):=by rw[hH1];simp
    have p2:al Tryz.prog 60 (.ptr 7 0) H1=some (.map 6):=by simp[zb,ldC,hI1.thc]
    have p3:=kj hI1.th n;have hem:=BZ false ws (by omega) (by have:=iy hwb;omega);have hle:=Cm (out:=.ret (.bool (ws.flatten==[]))) g1 rfl;have skip:lf th c n=[]→ ∀a',a'.H=H1→a'.D=[.mark 8]→aB a'.T (T2 (i+1))→ ∃y,inv2 c ver L xs th y a'∧5 - y<5 - i:=by
      rintro e ⟨T',H',D'⟩ rfl rfl h3;exact⟨i+1,⟨h3,by rw[hnt,e,List.append_nil];exact hI1,rfl,h⟩,by omega⟩
    generalize hF:fsV k=Fk at*;generalize hKd:(AV.vmap (fk.map .str) fZ)=Kd at*;by_cases hb:inB n th=true
    · have hnew:lf th c n=[]:=if_pos (.inl hb)
      rw[hb]at p3;refine .vc (by decide) ?_
      repeat'(first|(simp(disch:=first|omega|(simp only[zL];omega))only[go_sem,Nat.reduceEqDiff,↓reduceIte,Nat.reduceAdd,Nat.reduceMul,Nat.reduceSub,Nat.reduceLeDiff,Nat.reduceLT,Int.reduceToNat,Int.reduceLE,hia]))
      refine W.aO [4] [false,false,false,false,true,false] [] mixed (by kernel_rfl) (by kernel_rfl) (by kernel_rfl) ?_
      repeat'(first|(simp(disch:=first|omega|(simp only[zL];omega))only[go_sem,Nat.reduceEqDiff,↓reduceIte,Nat.reduceAdd,Nat.reduceMul,Nat.reduceSub,Nat.reduceLeDiff,Nat.reduceLT,Int.reduceToNat,Int.reduceLE,hlk,p1,p2,p3])|(guard_target=~ an _ _ _ _ _ _ _;refine an.sh hwd ?_)|((with_reducible first|apply aj.pure|apply an.pure);(with_reducible exact hkv);(first|rfl|simp only[go_sem,hh1,hh2])))
      exact skip hnew _ rfl rfl ⟨rfl,rfl,rfl,rfl,rfl,rfl,rfl,rfl,rfl,trivial⟩
    have hb':inB n th=false:=by simpa using hb
    rw[hb']at p3;by_cases he:ws.flatten=[]
    · have hnew:lf th c n=[]:=if_pos (.inr (by rw[hw];exact he))
      rw[beq_iff_eq.2 he]at hem hle;refine .vc (by decide) ?_
      repeat'(first|(simp(disch:=first|omega|(simp only[zL];omega))only[go_sem,Nat.reduceEqDiff,↓reduceIte,Nat.reduceAdd,Nat.reduceMul,Nat.reduceSub,Nat.reduceLeDiff,Nat.reduceLT,Int.reduceToNat,Int.reduceLE,hia]))
      refine W.aO [4] [false,false,false,false,true,false] [] mixed (by kernel_rfl) (by kernel_rfl) (by kernel_rfl) ?_
      repeat'(first|(simp(disch:=first|omega|(simp only[zL];omega))only[go_sem,Nat.reduceEqDiff,↓reduceIte,Nat.reduceAdd,Nat.reduceMul,Nat.reduceSub,Nat.reduceLeDiff,Nat.reduceLT,Int.reduceToNat,Int.reduceLE,hlk,p1,p2,p3])|(guard_target=~ an _ _ _ _ _ _ _;refine an.sh hwd ?_)|(guard_target=~ aj _ _ _ _ _ _ _;refine aj.aX _ hem hle ?_)|((with_reducible first|apply aj.pure|apply an.pure);(with_reducible exact hkv);(first|rfl|simp only[go_sem,hh1,hh2])))
      exact skip hnew _ rfl rfl ⟨rfl,rfl,rfl,rfl,rfl,rfl,rfl,rfl,rfl,trivial⟩
    have hnew:lf th c n=[lnN n (gZ c n)]:=if_neg (by rw[hw,hb'];simpa using he);rw[beq_eq_false_iff_ne.2 he]at hem hle;have hln: ∀o n M,aI Tryz.prog 25 (.sl o 0 n 0) M=some (.int .i64 n):=by intro o n M;simp[aI,Tryz.underlying25]
    refine .vc (by decide) ?_
    repeat'(first|(simp(disch:=first|omega|(simp only[zL];omega))only[go_sem,Nat.reduceEqDiff,↓reduceIte,Nat.reduceAdd,Nat.reduceMul,Nat.reduceSub,Nat.reduceLeDiff,Nat.reduceLT,Int.reduceToNat,Int.reduceLE,hia]))
    refine W.aO [4] [false,false,false,false,true,false] [] mixed (by kernel_rfl) (by kernel_rfl) (by kernel_rfl) ?_
    repeat'(first|(simp(disch:=first|omega|(simp only[zL];omega))only[go_sem,Nat.reduceEqDiff,↓reduceIte,Nat.reduceAdd,Nat.reduceMul,Nat.reduceSub,Nat.reduceLeDiff,Nat.reduceLT,Int.reduceToNat,Int.reduceLE,hlk,p1,p2,p3,hln])|(guard_target=~ an _ _ _ _ _ _ _;refine an.sh hwd ?_)|(guard_target=~ aj _ _ _ _ _ _ _;refine aj.aX _ hem hle ?_)|((with_reducible first|apply aj.pure|apply an.pure);(with_reducible exact hkv);(first|rfl|simp only[go_sem,hh1,hh2])))
    have l1:H.length<H1.length:=by rw[hH1];simp
    have hmm: ∀j,(bz (ws.take j) ws).length=ws.length:=fun j=>by rw[mv];simp;omega
    have hm0:eh H1 H.length true (bz (ws.take 0) ws)=H1:=by rw[List.take_zero,bz];exact jI g1
    refine W.bh (X:=Nat) (fun j=>(101,.int .i64 (j:Int))::(100,.int .i64 ws.length)::(15,.sl H.length 0 ws.length 0)::(14,.str n)::T2 i) (fun j=>eh H1 H.length true (bz (ws.take j) ws)) (fun j=>j≤ws.length) (fun j=>ws.length - j) 0 (Nat.zero_le _) ⟨rfl,rfl,rfl,rfl,rfl,rfl,rfl,rfl,rfl,rfl,rfl,rfl,rfl,trivial⟩ hm0.symm ?_;intro j hj;by_cases h3:j<ws.length
    · obtain⟨s,hs,_⟩:=drop_at h3
      have hstep:=uR (cs:=ws) hs;rw[hmm,if_pos h3]at hstep;have hmj:=hmm j;have hcj:(bz (ws.take j) ws)[j]? =some s:=by
        rw[wQ,if_neg (by simp;omega),hs]
      generalize bz (ws.take j) ws=p at hstep hmj hcj ⊢;have q1:=gY (d:=H.length) 0 ws.length j h3;have q2:=mY (opn:=true) l1 hcj;have q3:=pN (opn:=true) l1 (c:=p) (i:=j) (by omega) (esc s);rw[←hstep]at q3;have q4:=HN s (hwb s (List.mem_of_getElem? hs));refine .vc (by decide) ?_
      repeat'(first|(simp(disch:=first|omega|(simp only[zL];omega))only[go_sem,Nat.reduceEqDiff,↓reduceIte,Nat.reduceAdd,Nat.reduceMul,Nat.reduceSub,Nat.reduceLeDiff,Nat.reduceLT,Int.reduceToNat,Int.reduceLE,q1,q2,q3])|((with_reducible first|apply aj.pure|apply an.pure);(with_reducible exact q4);(first|rfl|simp only[go_sem])))
      exact⟨j+1,h3,by omega,⟨rfl,rfl,rfl,rfl,rfl,rfl,rfl,rfl,rfl,rfl,rfl,rfl,rfl,trivial⟩,rfl⟩
    · have e:j=ws.length:=by omega
      subst e;have hme:bz ws ws=ws.map esc:=by simp[bz]
      rw[List.take_length,hme];obtain⟨H2,hH2⟩: ∃H2,H2=eh H1 H.length true (ws.map esc):=⟨_,rfl⟩
      rw[←hH2];have g2:H2[H.length]? =some (.cells ((ws.map esc).map .str) true):=by rw[hH2];exact jH l1 _
      have hI2:qa H2 c ver (L++dK th c (aP.take i)) xs th:=hI.fm fun j o hj=>by
        rw[hH2,eh,List.getElem?_set_ne (by have:=(List.getElem?_eq_some_iff.1 hj).1;omega),hH1];exact aV hj
      have hem2: ∀p∈ws.map esc,p.length≤2000000:=by
        intro p hp;obtain⟨w,hw1,rfl⟩:=List.mem_map.1 hp;have:=gD w;have:=hwb w hw1;omega
      have hbq:=uU (lnN n (gZ c n));by_cases hN:n=nN
      · have hw2:ws.length=2:=by rw[hwl];exact hnn hN
        have hvn:gZ c n=Lib.join (ws.map esc++[[],[],[]]) [59]:=by rw[gZ,if_pos hN,hw]
        have hq:(n==[110])=true:=by rw[hN];rfl
        have hz:=JU (a:=ws.map esc) g2 (by simpa using hw2);obtain⟨H3,hH3⟩: ∃H3,H3=H2.set H.length .dead++[OB.cells ((ws.map esc++[[],[],[]]).map .str) true]:=⟨_,rfl⟩
        rw[←hH3]at hz;have l2:H2.length=H1.length:=by rw[hH2];simp[eh]
        have g3:H3[H2.length]? =some (.cells ((ws.map esc++[[],[],[]]).map .str) true):=by rw[hH3,List.getElem?_append_right (by simp)];simp
        have hI3:qa H3 c ver (L++dK th c (aP.take i)) xs th:=hI.fm fun j o hj=>by
          have hjl:=(List.getElem?_eq_some_iff.1 hj).1;rw[hH3];refine aV ?_;rw[List.getElem?_set_ne (by omega),hH2,eh,List.getElem?_set_ne (by omega),hH1];exact aV hj
        obtain⟨N,hsh,hIN⟩:=hI3.add (lnN n (gZ c n)) (by simp;omega)
        have hjn:=yk false (ws.map esc++[[],[],[]]) [59] (by simp;omega) (by
          have h1:=iz [59] (ws.map esc++[[],[],[]])
          have h2:=iy (l:=ws.map esc++[[],[],[]]) (b:=2000000) (by
            intro p hp;rcases List.mem_append.1 hp with h|h
            · exact hem2 p h
            · simp at h;rw[h];simp)
          simp only[List.length_append,List.length_map,hw2,List.length_cons,List.length_nil]at h1 h2;omega)
        have hps:(ws.map esc++[[],[],[]]).length=5:=by simp[hw2]
        have hjl:=rq (s:=[59]) (out:=.ret (.str (gZ c n))) g3 rfl;rw[hps]at hjl;rw[←hvn]at hjn;have hbd:=bdQ n (gZ c n);have p6:=uW hI3.fn;have hng:aG Tryz.prog 25 3 (.sl H.length 0 2 0) (.int .i64 3) H2=none:=by
          simp[aG,Tryz.underlying25,apX,ch,bW]
        generalize bV (lnN n (gZ c n))=Qn at*;rw[hw2];refine .vc (by decide) ?_;have hd3:deN (AV.int .i64 (5 - ((2:Nat):Int)))=.int .i64 3:=rfl;have hz2:mM Tryz.prog 25 3 (.sl H.length 0 2 0) (.int .i64 (5 - ((2:Nat):Int))) H2=some (.sl H2.length 0 5 0,H3):=hz
        repeat'(first|(simp(disch:=first|omega|(simp only[zL];omega))only[go_sem,Nat.reduceEqDiff,↓reduceIte,Nat.reduceAdd,Nat.reduceMul,Nat.reduceSub,Nat.reduceLeDiff,Nat.reduceLT,Int.reduceToNat,Int.reduceLE,hq,hln,hng,hd3,hz2]))
        refine W.aO [6] [false,false,false,false,false,false,true] [] mixed (by kernel_rfl) (by kernel_rfl) (by kernel_rfl) ?_
        repeat'(first|(simp(disch:=first|omega|(simp only[zL];omega))only[go_sem,Nat.reduceEqDiff,↓reduceIte,Nat.reduceAdd,Nat.reduceMul,Nat.reduceSub,Nat.reduceLeDiff,Nat.reduceLT,Int.reduceToNat,Int.reduceLE,p6,hbd,hbq])|(guard_target=~ an _ _ _ _ _ _ _;refine an.aX _ hjn hjl ?_)|(guard_target=~ an _ _ _ _ _ _ _;refine an.sh hsh ?_))
        exact⟨i+1,⟨⟨rfl,rfl,rfl,rfl,rfl,rfl,rfl,rfl,rfl,trivial⟩,by rw[hnt,hnew,←List.append_assoc];exact hIN,rfl,h⟩,by omega⟩
      · have hvn:gZ c n=Lib.join (ws.map esc) [59]:=by rw[gZ,if_neg hN,hw,List.append_nil]
        have hq:(n==[110])=false:=by
          cases hq:(n==[110])with
          |false=>rfl
          |true=>exact(hN (by simpa[nN]using hq)).elim
        obtain⟨N,hsh,hIN⟩:=hI2.add (lnN n (gZ c n)) (by simp;omega)
        have hjn:=yk false (ws.map esc) [59] (by simp;omega) (by
          have h1:=iz [59] (ws.map esc);have h2:=iy hem2
          simp only[List.length_map,List.length_cons,List.length_nil]at h1 h2;omega)
        have hjl:=rq (s:=[59]) (out:=.ret (.str (gZ c n))) g2 rfl;rw[List.length_map]at hjl;rw[←hvn]at hjn;have hbd:=bdQ n (gZ c n);have p6:=uW hI2.fn;generalize bV (lnN n (gZ c n))=Qn at*;refine .vc (by decide) ?_
        repeat'(first|(simp(disch:=first|omega|(simp only[zL];omega))only[go_sem,Nat.reduceEqDiff,↓reduceIte,Nat.reduceAdd,Nat.reduceMul,Nat.reduceSub,Nat.reduceLeDiff,Nat.reduceLT,Int.reduceToNat,Int.reduceLE,hq]))
        refine W.aO [6] [false,false,false,false,false,false,true] [] mixed (by kernel_rfl) (by kernel_rfl) (by kernel_rfl) ?_
        repeat'(first|(simp(disch:=first|omega|(simp only[zL];omega))only[go_sem,Nat.reduceEqDiff,↓reduceIte,Nat.reduceAdd,Nat.reduceMul,Nat.reduceSub,Nat.reduceLeDiff,Nat.reduceLT,Int.reduceToNat,Int.reduceLE,p6,hbd,hbq])|(guard_target=~ an _ _ _ _ _ _ _;refine an.aX _ hjn hjl ?_)|(guard_target=~ an _ _ _ _ _ _ _;refine an.sh hsh ?_))
        exact⟨i+1,⟨⟨rfl,rfl,rfl,rfl,rfl,rfl,rfl,rfl,rfl,trivial⟩,by rw[hnt,hnew,←List.append_assoc];exact hIN,rfl,h⟩,by omega⟩
  · have e:i=5:=by omega
    subst e;refine .vc (by decide) ?_
    repeat'(first|(simp(disch:=first|omega|(simp only[zL];omega))only[go_sem,Nat.reduceEqDiff,↓reduceIte,Nat.reduceAdd,Nat.reduceMul,Nat.reduceSub,Nat.reduceLeDiff,Nat.reduceLT,Int.reduceToNat,Int.reduceLE]))
    exact hQ _ ⟨⟨rfl,rfl,rfl,rfl,rfl,rfl,rfl,rfl,rfl,trivial⟩,hI,rfl,hi⟩
def hG:List Bytes:=[bm,cE]
def qD(n:Bytes)(l:List Bytes):List (Ln×Bool):=l.map fun v=>lnN n (esc v)
def tc(c:List Val)(told:Nat→List Bytes)(i:Nat):List (Ln×Bool):=match hG[i]? with
 |some n=>qD n (bR (ar c (6+i)) (told (6+i)))
 |none=>[]
def gI(c:List Val)(told:Nat→List Bytes)(i:Nat):List (Ln×Bool):=(List.range i).flatMap (tc c told)
theorem qb(c:List Val)(told:Nat→List Bytes)(i:Nat):gI c told (i+1)=gI c told i++tc c told i:=by
 rw[gI,List.range_succ,List.flatMap_append];simp[gI]
theorem Cn(c:List Val)(told:Nat→List Bytes)(i b:Nat)(h:∀f,(ar c f).length≤b):(tc c told i).length≤b:=by
 unfold tc;split
 ·simp only[qD,List.length_map];exact Nat.le_trans (ki _ _) (h _)
 ·simp
theorem ru(c:List Val)(told:Nat→List Bytes)(b:Nat)(h:∀f,(ar c f).length≤b):∀i,(gI c told i).length≤b*i
 |0=>by simp[gI]
 |i+1=>by
  have:=ru c told b h i;have:=Cn c told i b h;rw[qb,List.length_append,Nat.mul_add];omega
structure zO (H:List OB) (c:List Val) (ver:Bytes) (L:List (Ln×Bool)):Prop where
 con:H[1]? =some (.cells (c.map av) false)
 two:H[2]? =some (.cells [.str [],.nilsl] false)
 blk:∃ov,H[3]? =some (.cells [.str ver,ov] false)∧na H ov L
 fn:H[4]? =some (.cells [pX] false)
 dfr:H[8]? =some .dfr
theorem zO.add{H:List OB}{c:List Val}{ver:Bytes}{L:List (Ln×Bool)}(h:zO H c ver L)(q:Ln×Bool)(hl:L.length<1000000):
    ∃N,bF Tryz.prog 55 [.vsl 5 true [bV q],.ptr 3 0] H (.ret (.tup [])) N∧zO N c ver (L++[q]):=by
  obtain⟨ov,h3,ho⟩:=h.blk;obtain⟨M,hlen,hnew,hold,hsh⟩:=FM h3 ho q hl;have l3:=(List.getElem?_eq_some_iff.1 h3).1;have hk: ∀(j:Nat) (o:OB),j≠3→H[j]? =some o→(∀cs,o≠OB.cells cs true)→(M.set 3 (.cells [.str ver,.sl H.length 0 (L.length+1) 5] false))[j]? =some o:=fun j o h1 h2 h4=>by
    rw[List.getElem?_set_ne (by omega),hold j (List.getElem?_eq_some_iff.1 h2).1 fun n e=> ?_]
    · exact h2
    · obtain⟨cs,hc⟩:=ho.lt e
      rw[h2]at hc;exact h4 cs (Option.some.inj hc)
  refine⟨_,hsh,hk 1 _ (by omega) h.con (fun cs e=>by cases e),hk 2 _ (by omega) h.two (fun cs e=>by cases e),⟨_,by rw[List.getElem?_set_self (by omega)],.inr ⟨H.length,by simp,?_⟩⟩,hk 4 _ (by omega) h.fn (fun cs e=>by cases e),hk 8 _ (by omega) h.dfr (fun cs e=>by cases e)⟩;rw[List.getElem?_set_ne (by omega)];exact hnew
abbrev U1(us:List AV):List (Nat×AV):=[(3,.ptr 1 0),(4,.ptr 2 0),(5,.ptr 3 0),(6,.ptr 4 0),(7,.vptr us)]
abbrev U3(us:List AV)(i:Nat):List (Nat×AV):=(130,.int .i64 (i:Int))::(129,.int .i64 2)::(128,.vsl 0 true (hG.map .str))::U1 us
def HS(c:List Val)(ver:Bytes)(L:List (Ln×Bool))(told:Nat→List Bytes)(us:List AV)(i:Nat)(a:St):Prop:=aB a.T (U3 us i)∧zO a.H c ver (L++gI c told i)∧a.D=[.mark 8]∧i≤2
theorem zP{i:Nat}{n:Bytes}(h:hG[i]? =some n):∃k,aD n=some k∧k.fs=[6+i]:=by
 match i,h with
 |0,h=>cases h;exact⟨_,rfl,rfl⟩
 |1,h=>cases h;exact⟨_,rfl,rfl⟩
 |i+2,h=>simp[hG]at h
theorem qc(us:List AV)(f:Nat)(hf:f<8)(X:List OB):ah Tryz.prog 27 (.vptr us) (.int .i64 (f:Int)) X=some (.vptr (us.drop f)):=by
 simp[ah,bL,Tryz.underlying27,qx,hf]
set_option maxRecDepth 8000 in
theorem JW {c:List Val} {ver:Bytes} {L:List (Ln×Bool)} {told:Nat→List Bytes} {us:List AV} {Q:Ex→St→Prop} {a:St} (hc:c.length=8) (hcb: ∀f,f<8→ ∀s∈ar c f,s.length≤1000000) (hcl: ∀f,(ar c f).length≤10000) (hL:L.length≤900000)
    (hus:us.length=8) (hut: ∀(f:Nat) (u:AV),us[f]? =some u→u.hf=true∧Le u (.vsl 0 false ((told f).map .str))) (h:HS c ver L told us 0 a)
    (hQ: ∀a',HS c ver L told us 2 a'→Q .normal a'):W Tryz.prog 162 0 none (.loop lp6) (bl 6 Q) a:=by
  refine W.loop (X:=Nat) (fun i a=>HS c ver L told us i a) (fun i=>2 - i) 0 h ?_;clear h a;rintro i ⟨T,H,D⟩ ⟨hT,hI,rfl,hi⟩;simp only at hT hI;refine W.bQ _ hT ?_;show W Tryz.prog 162 0 none (.seq (.region 32 _ _) (.seq (.cond _ .skip (.exit 6)) _)) _ _;by_cases h:i<2
  · obtain⟨n,hn,_⟩:=drop_at (show i<hG.length from h)
    obtain⟨k,hk,hkf⟩:=zP hn;have hia: ∀X,ah Tryz.prog 25 (.vsl 0 true (hG.map .str)) (.int .i64 (i:Int)) X=some (.vptr [.str n]):=fun X=>dW (v:=.str n) (by simp[hn]) rfl X;have hkv:=wP;have hlk:=Ck n;rw[hk,mz]at hlk;have hf8:6+i<8:=by omega
    have hi0: ∀X,ah Tryz.prog 64 (fsV k) (.int .i64 0) X=some (.vptr [.int .i64 ((6+i:Nat):Int)]):=fun X=>zk (v:=.int .i64 ((6+i:Nat):Int)) (by simp[hkf]) rfl X;have hic:=eG 1 (6+i) hf8;obtain⟨w,hw⟩: ∃w,c[6+i]? =some w:=⟨_,List.getElem?_eq_getElem (by omega)⟩
    have hldc:al Tryz.prog 25 (.ptr 1 (6+i)) H=some (av w):=kG _ 1 _ c w false hI.con hw;obtain⟨u,hu⟩: ∃u,us[6+i]? =some u:=⟨_,List.getElem?_eq_getElem (by omega)⟩
    obtain⟨hu1,hu2⟩:=hut _ _ hu;have hfv:=eP c (6+i) w hw;obtain⟨wx,wl⟩:=w;simp only[av]at hldc hfv;have hwl:wl.length≤10000:=by have:=hcl (6+i);rwa[hfv]at this
    have hmv:=aa.le (.cons _ _ _ _ (.refl _) (.cons _ _ _ _ hu2 .nil)) (JH wx false wl (told (6+i)) (by omega));have hiu: ∀X,ah Tryz.prog 27 (.vptr us) (.int .i64 ((6+i:Nat):Int)) X=some (.vptr (us.drop (6+i))):=qc us (6+i) hf8;have hfd: ∀a b d:AV,nU Tryz.prog 66 (.agg [a,b,d]) 0=some a:=fun a b d=>by kernel_rfl
    have hlu: ∀X,al Tryz.prog 25 (.vptr (us.drop (6+i))) X=some u:=by
      intro X;obtain⟨u2,hu3,hd⟩:=drop_at (show 6+i<us.length by omega);rw[hu]at hu3;cases hu3;rw[hd];exact Dv _ _ _
    obtain⟨m,hm⟩: ∃m,m=bR wl (told (6+i)):=⟨_,rfl⟩
    rw[←hm]at hmv;have hml:m.length≤10000:=by rw[hm];exact Nat.le_trans (ki _ _) hwl
    have hmb: ∀s∈m,s.length≤1000000:=fun s hs=>hcb (6+i) hf8 s (by rw[hfv];rw[hm]at hs;exact(List.mem_filter.1 hs).1);have hnf:tc c told i=qD n m:=by unfold tc;rw[hn,hfv,hm]
    have hnl:=ru c told 10000 hcl i;have hlm: ∀X,aI Tryz.prog 25 (.vsl 0 false (m.map .str)) X=some (.int .i64 m.length):=by intro X;simp[aI,Tryz.underlying25]
    have hh:=wY k;generalize hF:fsV k=Fk at*;generalize hKd:(AV.vmap (fk.map .str) fZ)=Kd at*;refine .vc (by decide) ?_
    repeat'(first|(simp(disch:=first|omega|(simp only[zL];omega))only[go_sem,seval,hia,hlk,hfd,hi0])|((with_reducible first|apply aj.pure|apply an.pure);(with_reducible exact hkv);(first|rfl|simp only[go_sem])))
    refine W.aO [] [false,false,false,false,false,false,false,false,false] [] mixed (by kernel_rfl) (by kernel_rfl) (by kernel_rfl) ?_
    repeat'(first|(simp(disch:=first|omega|(simp only[zL];omega))only[go_sem,seval,hic,hldc,hiu,hlu,hlm])|((with_reducible first|apply aj.pure|apply an.pure);(with_reducible exact hmv);(first|rfl|simp only[go_sem,aF,hu1])))
    refine W.loop (X:=Nat) (fun j a=>aB a.T ((148,.int .i64 (j:Int))::(147,.int .i64 m.length)::(146,.vsl 0 false (m.map .str))::(18,.str n)::U3 us i)∧zO a.H c ver (L++gI c told i++qD n (m.take j))∧a.D=[.mark 8]∧j≤m.length) (fun j=>m.length - j) 0
      ⟨⟨rfl,rfl,rfl,rfl,rfl,rfl,rfl,rfl,rfl,rfl,rfl,rfl,trivial⟩,by rw[List.take_zero];simpa[qD]using hI,rfl,Nat.zero_le _⟩ ?_
    rintro j ⟨T2,H2,D2⟩ ⟨hT2,hI2,rfl,hj⟩;simp only at hT2 hI2;refine W.bQ _ hT2 ?_;by_cases h3:j<m.length
    · obtain⟨s,hs,_⟩:=drop_at h3
      have q1: ∀X,ah Tryz.prog 25 (.vsl 0 false (m.map .str)) (.int .i64 (j:Int)) X=some (.vptr [.str s]):=fun X=>dW (v:=.str s) (by simp[hs]) rfl X;have q2:=HN s (hmb s (List.mem_of_getElem? hs));obtain⟨N,hsh,hIN⟩:=hI2.add (lnN n (esc s)) (by simp[qD];omega);have hbq:=uU (lnN n (esc s));have hbd:=bdQ n (esc s);have p6:=uW hI2.fn;generalize bV (lnN n (esc s))=Qn at*;refine .vc (by decide) ?_
      repeat'(first|(simp(disch:=first|omega|(simp only[zL];omega))only[go_sem,seval,q1]))
      refine W.aO [6] [false,false,false,false,false,false,true] [] mixed (by kernel_rfl) (by kernel_rfl) (by kernel_rfl) ?_
      repeat'(first|(simp(disch:=first|omega|(simp only[zL];omega))only[go_sem,seval,p6,hbd,hbq])|(guard_target=~ an _ _ _ _ _ _ _;refine an.sh hsh ?_)|((with_reducible first|apply aj.pure|apply an.pure);(with_reducible exact q2);(first|rfl|simp only[go_sem])))
      refine⟨j+1,⟨⟨rfl,rfl,rfl,rfl,rfl,rfl,rfl,rfl,rfl,rfl,rfl,rfl,trivial⟩,?_,h3⟩,by omega⟩;have e:qD n (m.take (j+1))=qD n (m.take j)++[lnN n (esc s)]:=by rw[qD,List.take_add_one,hs,List.map_append];rfl
      rw[e,←List.append_assoc];exact hIN
    · have e:j=m.length:=by omega
      subst e;rw[List.take_length]at hI2;refine .vc (by decide) ?_
      repeat'(first|(simp(disch:=first|omega|(simp only[zL];omega))only[go_sem,seval]))
      exact⟨i+1,⟨⟨rfl,rfl,rfl,rfl,rfl,rfl,rfl,rfl,trivial⟩,by rw[qb,hnf,←List.append_assoc];exact hI2,rfl,h⟩,by omega⟩
  · have e:i=2:=by omega
    subst e;refine .vc (by decide) ?_
    repeat'(first|(simp(disch:=first|omega|(simp only[zL];omega))only[go_sem,seval]))
    exact hQ _ ⟨⟨rfl,rfl,rfl,rfl,rfl,rfl,rfl,rfl,trivial⟩,hI,rfl,hi⟩
end Go.Proofs.YtekcidbpejicdaaGreatDoor
