/- Contracts of functions that the statements of this seat reach: under the conditions named at each theorem. -/
import Derived.Test.YtekcidbpejicdaaGreatDoorZbP8
import Derived.Test.YtekcidbpejicdaaGreatDoorZbP5
import Derived.Test.YtekcidbpejicdaaGreatDoorZbP9
import Derived.Lib.Bytealg
import Derived.Test.YtekcidbpejicdaaGreatDoorZbP6
import Derived.Lib.TrimUEq
namespace Go.Proofs.YtekcidbpejicdaaGreatDoor
set_option linter.unusedVariables false
set_option linter.unusedSimpArgs false
open Go Go.Av
def AR:List Bytes:=[[13,10,32],[],[13,10,9],[],[10,32],[],[10,9],[]]
def obF:OB:=.cells (AR.map .str) true
def obR:OB:=.cells [.int .u32 0,.int .i32 1,.int .u32 0,.nilif,.sl 0 0 8 0] false
def m1(k:Nat):Nat:=if k=9∨k=10∨k=13∨k=32 then 1 else 0
def s1(k:Nat):Nat:=(if 9<k then 1 else 0)+(if 10<k then 1 else 0)+(if 13<k then 1 else 0)+(if 32<k then 1 else 0)
def m2(k:Nat):Nat:=if m1 k=0 then 4 else s1 k
def bE(f:Nat→Nat):List AV:=(List.range 256).map fun k=>.int .u8 ((f k:Nat):Int)
def r6(t:AV)(n:Nat):List AV:=[.str [],.int .i64 0,.str [],.nilptr,t,.int .i64 n]
theorem gO(f:Nat→Nat)(i:Nat)(h:i<256):(bE f)[i]? =some (.int .u8 ((f i:Nat):Int)):=by
 simp[bE,List.getElem?_range h]
theorem AS(f g:Nat→Nat)(i:Nat)(h:∀k,k≠i→g k=f k):(bE f).set i (.int .u8 ((g i:Nat):Int))=bE g:=by
 apply List.ext_getElem?;intro k;rw[List.getElem?_set];by_cases e:i=k
 ·subst e
  rw[if_pos rfl];by_cases hl:i<256
  ·rw[if_pos (by simpa[bE]using hl),gO g i hl]
  ·rw[if_neg (by simpa[bE]using hl)];simp[bE,List.getElem?_eq_none (l:=List.range 256) (i:=i) (by simpa using hl)]
 ·rw[if_neg e]
  by_cases hl:k<256
  ·rw[gO f k hl,gO g k hl,h k (fun x=>e x.symm)]
  ·simp[bE,List.getElem?_eq_none (l:=List.range 256) (i:=k) (by simpa using hl)]
theorem xa(i:Nat):s1 (i+1)=s1 i+m1 i:=by
 unfold s1 m1;split<;>(repeat' split)<;>omega
theorem Mc:s1 0=0:=rfl
theorem AU(i:Nat):s1 i≤4:=by
 unfold s1
 (repeat' split)<;>omega
theorem Md:bS Tryz.prog 261=some (.agg (r6 .nilsl 0++bE fun _=>0)):=by kernel_rfl
def vr:List OB:=
  [obF,obR,
   .cells (r6 (.sl 3 0 4 0) 4++bE m2) false,
   .cells [.nilptr,.ptr 9 0,.ptr 4 0,.nilptr] false,
   .cells [.str [],.int .i64 0,.str [10],.ptr 6 0,.nilsl] false,
   .cells [.str [],.int .i64 8,.str [],.nilptr,.nilsl] false,
   .cells [.str [],.int .i64 0,.str [],.nilptr,.sl 8 0 4 0] false,
   .cells [.str [],.int .i64 6,.str [],.nilptr,.nilsl] false,
   .cells [.ptr 7 0,.nilptr,.nilptr,.ptr 5 0] false,
   .cells [.str [],.int .i64 0,.str [],.nilptr,.sl 12 0 4 0] false,
   .cells [.str [],.int .i64 4,.str [],.nilptr,.nilsl] false,
   .cells [.str [],.int .i64 2,.str [],.nilptr,.nilsl] false,
   .cells [.ptr 11 0,.nilptr,.nilptr,.ptr 10 0] false]
theorem FV(f:Nat→Nat)(i:Nat)(h:i<256):cf Tryz.prog 230 (.agg (bE f)) (.int .i64 (i:Int))=some (.int .u8 ((f i:Nat):Int)):=by
 have:=gO f i h;simp[cf,bt,Tryz.underlying230,tz5,h,ny,tg5,ldA,this]
theorem FW(i:Nat)(h:i<256)(id off:Nat)(H:List OB):ak Tryz.prog 230 (.ptr id off) (.int .i64 (i:Int)) H=some (.ptr id (off+i)):=by
 simp[ak,bt,Tryz.underlying230,tz5,h]
theorem wr8(n:Nat)(h:n<256):IntKind.wrap .u8 (n:Int)=n:=by
 unfold IntKind.wrap;simp[IntKind.bits,IntKind.signed];omega
theorem Me(n:Nat)(h:n<256):IntKind.wrap .i64 (n:Int)=n:=wrap64 _ (by omega)
theorem cv8(n:Nat)(h:n<256)(H:List OB):bx Tryz.prog 5 3 (.int .u8 (n:Int)) H=some (.int .i64 (n:Int),H):=by
 simp[bx,Tryz.underlying5,Tryz.underlying3,Me n h]
theorem Mf(n:Nat)(h:n<256)(H:List OB):bx Tryz.prog 3 5 (.int .i64 (n:Int)) H=some (.int .u8 (n:Int),H):=by
 simp[bx,Tryz.underlying5,Tryz.underlying3,wr8 n h]
theorem FX(t a b:Nat)(h:a+b<1000):aH Tryz.prog .add t (.int .i64 (a:Int)) (.int .i64 (b:Int))=some (.int .i64 ((a+b:Nat):Int)):=by
 rw[dc _ _ (by omega)];simp
theorem AW(t a:Nat)(h:a<9223372036854775807):aH Tryz.prog .add t (.int .i64 (a:Int)) (.int .i64 1)=some (.int .i64 ((a+1:Nat):Int)):=by
 rw[dc _ _ (by omega)];simp
theorem JR{n:Nat}(k:IntKind)(h:1≤n):iw n (some (.int k 1)) none=some (1,n):=bn k 1 h
theorem FY(k:Nat):m1 k<256:=by unfold m1;split<;>omega
theorem AX(m:Nat)(f:Nat→Nat):AV.bf m (bE f)=true:=by rw[dZ,List.all_eq_true];intro v hv;obtain⟨k,_,rfl⟩:=List.mem_map.1 hv;rfl
theorem JS(f:Nat→Nat):cm 3 [(40,.agg (bE f)),(3,.ptr 2 0),(0,.sl 0 0 8 0)]=true:=by
 simp[cm,AV.hlt,AX]
theorem JT(n:Nat)(f:Nat→Nat):cm 3 [(9,.int .u8 (n:Int)),(57,.agg (bE f)),(3,.ptr 2 0),(0,.sl 0 0 8 0)]=true:=by
 simp[cm,AV.hlt,AX]
def mm(i k:Nat):Nat:=if k<i then m2 k else m1 k
theorem xb(i:Nat):∀k,k≠i→mm (i+1) k=mm i k:=by
 intro k hk;unfold mm;by_cases h:k<i
 ·rw[if_pos h,if_pos (by omega)]
 ·rw[if_neg h,if_neg (by omega)]
theorem AY(i:Nat)(hi:i<256)(f g:Nat→Nat)(h: ∀k,k≠i→g k=f k)(t:AV)(n:Nat):
    aA Tryz.prog 5 (.ptr 2 (6+i)) (.int .u8 ((g i:Nat):Int)) [obF,obR,.cells (r6 t n++bE f) false]=some [obF,obR,.cells (r6 t n++bE g) false]:=by
  have hl:(bE f).length=256:=by simp[bE]
  have h6:(r6 t n).length=6:=rfl;have hset:(r6 t n++bE f).set (6+i) (.int .u8 ((g i:Nat):Int))=r6 t n++bE g:=by
    rw[List.set_append_right _ _ (by omega),h6,Nat.add_sub_cancel_left,AS f g i h]
  simp[st5,stC,AV.cells,AV.isC,cz,hset,hl,h6];omega
theorem AZ(n:Nat)(f:Nat→Nat):bm 3 [obF,obR,.cells (r6 .nilsl n++bE f) false] [obF,obR,.cells (r6 .nilsl n++bE f) false]:=by
 have:AV.bf 3 (r6 .nilsl n++bE f)=true:=by
  rw[dZ,List.all_append,←dZ,←dZ,AX];rfl
 refine⟨rfl,by rfl,rfl,by rfl,rfl,?_,trivial⟩;exact this
theorem Hu:aY Tryz.prog 204 [.sl 0 0 8 0] [obF,obR] (.ret (.ptr 2 0)) vr:=by
 refine aY.ofX Tryz.func204 rfl (ab enters Tryz.func204 rfl) (by simp[Tryz.ntmps204]) ?_;show W Tryz.prog 117 2 none _ _ _;refine .seq (.region [] (by decide) ?_);simp only[al,gdA,ae,aa,ah,an,evalOp,St.ev,St.put,aL,ofV,ai];refine .seq (.region [] (by decide) ?_);simp only[al,gdA,ae,aa,ah,an,evalOp,St.ev,Av.get,St.put,ai,↓reduceIte,List.nil_append,Option.map_some,AV.cells,List.length_cons,List.length_nil,Nat.reduceAdd,Nat.zero_add,List.cons_append,Md];refine .seq (W.runs mixed enters 1 [(3,.ptr 2 0),(0,.sl 0 0 8 0)] [obF,obR,.cells (r6 .nilsl 0++bE m1) false] (by kernel_rfl) (.inl ?_))
 refine .seq (.seq (.region [] (by decide) ?_));have hld:ao Tryz.prog 230 (.ptr 2 6) [obF,obR,.cells (r6 .nilsl 0++bE m1) false]=some (.agg (bE m1)):=by kernel_rfl
 simp only[al,gdA,ae,aa,ah,an,evalOp,St.ev,Av.get,St.put,ofV,ai,↓reduceIte,Option.map_some,Nat.zero_add,bl,kH,hld];refine .block ?_
 refine .Jz 41 42 53 256 (by decide) rfl rfl rfl rfl rfl rfl rfl rfl rfl (by decide) (by decide) (by decide)
  (fun _=>[(40,.agg (bE m1)),(3,.ptr 2 0),(0,.sl 0 0 8 0)]) (fun _=>rfl) (fun i=>[obF,obR,.cells (r6 .nilsl (s1 i)++bE m1) false]) ?_ (fun _=>True)
  rfl trivial ?_ (fun i _=>JS _) ?_ ?_ ?_
 ·intro i;exact Nat.le_succ 2
 ·simp only[bz,Av.get,Nat.reduceEqDiff,↓reduceIte,bg,dk,dm,and_self]
 ·exact AZ 0 m1
 ·intro i hi _
  refine .block (.seq (.region [] (by decide) ?_));simp only[al,gdA,ae,aa,ah,an,evalOp,St.ev,Av.get,St.put,ai,Nat.reduceEqDiff,↓reduceIte,Option.map_some,List.length_cons,List.length_nil,Nat.reduceAdd,true_and,Nat.zero_add,FV m1 i hi];refine .region [] (by decide) ?_;have hl:ao Tryz.prog 3 (.ptr 2 5) [obF,obR,.cells (r6 .nilsl (s1 i)++bE m1) false]=some (.int .i64 (s1 i:Int)):=by simp[ld3,ldC,r6]
  have hst:aA Tryz.prog 3 (.ptr 2 5) (.int .i64 ((s1 (i+1):Nat):Int)) [obF,obR,.cells (r6 .nilsl (s1 i)++bE m1) false]=some [obF,obR,.cells (r6 .nilsl (s1 (i+1))++bE m1) false]:=by
   simp[st3,stC,r6,AV.cells,AV.isC,cz]
  simp only[al,gdA,ae,aa,ah,an,evalOp,St.ev,Av.get,St.put,ai,Nat.reduceEqDiff,↓reduceIte,Option.map_some,and_true,Nat.zero_add,aO,bl,nf,hl,cv8 _ (FY i),FX 3 (s1 i) (m1 i) (by have:=AU i;have:=FY i;omega),←xa i,hst];refine⟨?_,?_⟩
  ·simp only[bz,Av.get,Nat.reduceEqDiff,↓reduceIte,bg,dk,dm,and_self]
  ·exact AZ _ _
 ·intro _
  simp only[ai,↓reduceIte,aO];refine .seq (.region [] (by decide) ?_);simp only[al,gdA,ae,aa,ah,an,evalOp,St.ev,St.put,ofV,ai];refine .seq (.seq (.region [] (by decide) ?_));have hld2:ao Tryz.prog 230 (.ptr 2 6) [obF,obR,.cells (r6 .nilsl (s1 256)++bE m1) false]=some (.agg (bE m1)):=by kernel_rfl
  simp only[al,gdA,ae,aa,ah,an,evalOp,St.ev,Av.get,St.put,ofV,ai,Nat.reduceEqDiff,↓reduceIte,Option.map_some,Nat.zero_add,bl,kH,hld2];refine .block ?_
  refine .Jz 58 59 82 256 (by decide) rfl rfl rfl rfl rfl rfl rfl rfl rfl (by decide) (by decide) (by decide)
   (fun i=>[(9,.int .u8 (s1 i:Int)),(57,.agg (bE m1)),(3,.ptr 2 0),(0,.sl 0 0 8 0)]) (fun _=>rfl) (fun i=>[obF,obR,.cells (r6 .nilsl 4++bE (mm i)) false]) ?_ (fun _=>True)
   rfl trivial ?_ (fun i _=>JT _ _) ?_ ?_ ?_
  ·intro i;exact Nat.le_succ 2
  ·simp only[bz,Av.get,Nat.reduceEqDiff,↓reduceIte,bg,dk,dm,and_self,Mc]
  ·exact AZ 4 m1
  ·intro i hi _
   refine .block (.seq (.region [] (by decide) ?_));simp only[al,gdA,ae,aa,ah,an,evalOp,St.ev,Av.get,St.put,ai,Nat.reduceEqDiff,↓reduceIte,Option.map_some,List.length_cons,List.length_nil,Nat.reduceAdd,true_and,Nat.zero_add,FV m1 i hi];refine .seq (.region [] (by decide) ?_);simp only[al,gdA,ae,aa,ah,an,evalOp,St.ev,Av.get,St.put,ofV,ai,↓reduceIte,dv];have hs2:=xa i;have hs4:=AU i;by_cases hm:m1 i=0
   ·refine .cond (t:=true) (by simp[St.ev,Av.get,hm]) ?_
    have hl:ao Tryz.prog 3 (.ptr 2 5) [obF,obR,.cells (r6 .nilsl 4++bE (mm i)) false]=some (.int .i64 4):=by simp[ld3,ldC,r6]
    have hst:aA Tryz.prog 5 (.ptr 2 (6+i)) (.int .u8 4) [obF,obR,.cells (r6 .nilsl 4++bE (mm i)) false]=some [obF,obR,.cells (r6 .nilsl 4++bE (mm (i+1))) false]:=by
     have:=AY i hi (mm i) (mm (i+1)) (xb i) .nilsl 4;rw[show mm (i+1) i=4 by simp[mm,m2,hm]]at this;exact this
    have hcv:bx Tryz.prog 3 5 (.int .i64 4) [obF,obR,.cells (r6 .nilsl 4++bE (mm i)) false]=some (.int .u8 4,[obF,obR,.cells (r6 .nilsl 4++bE (mm i)) false]):=Mf 4 (by decide) _;refine W.Jy (pre:=[_,_,_,_,_,_,_,_,_,_]) (ow:=_) (post:=[]) (r:=.junk) (H':=[obF,obR,.cells (r6 .nilsl 4++bE (mm (i+1))) false]) [] [] mixed (by kernel_rfl) rfl (by kernel_rfl) (by kernel_rfl) ?_;generalize hB:[obF,obR,OB.cells (r6 .nilsl 4++bE (mm i)) false]=B at*;generalize hB2:[obF,obR,OB.cells (r6 .nilsl 4++bE (mm (i+1))) false]=B2 at*
    simp only[EDg,gdA,ae,aa,evalOp,St.ev,Av.get,St.put,ai,Nat.reduceEqDiff,↓reduceIte,Option.map_some,true_and,and_true,Nat.zero_add,aO,bl,nf,kH,hl,hcv,FW i hi,hst];subst hB2;refine⟨?_,AZ _ _⟩;have:s1 (i+1)=s1 i:=by omega
    simp only[bz,Av.get,Nat.reduceEqDiff,↓reduceIte,bg,dk,dm,and_self,this]
   ·refine .cond (t:=false) (by simp[St.ev,Av.get];omega) ?_
    have hst:aA Tryz.prog 5 (.ptr 2 (6+i)) (.int .u8 ((s1 i:Nat):Int)) [obF,obR,.cells (r6 .nilsl 4++bE (mm i)) false]=some [obF,obR,.cells (r6 .nilsl 4++bE (mm (i+1))) false]:=by
     have:=AY i hi (mm i) (mm (i+1)) (xb i) .nilsl 4;rw[show mm (i+1) i=s1 i by simp[mm,m2,hm]]at this;exact this
    have hm1:m1 i=1:=by unfold m1 at hm ⊢;split<;>simp_all
    have hadd:aH Tryz.prog .add 5 (.int .u8 ((s1 i:Nat):Int)) (.int .u8 1)=some (.int .u8 ((s1 (i+1):Nat):Int)):=by
     have h2:=wr8 (s1 i+1) (by omega);have h3:((s1 i:Nat):Int)+1=((s1 i+1:Nat):Int):=by simp
     simp only[aH,h3,h2,hs2,hm1,↓reduceIte]
    refine .seq (.region [] (by decide) ?_);simp only[al,gdA,ae,aa,ah,an,evalOp,St.ev,Av.get,St.put,ai,Nat.reduceEqDiff,↓reduceIte,Option.map_some,Nat.zero_add,bl,kH,FW i hi,hst];refine .region [] (by decide) ?_;simp only[al,gdA,ae,aa,ah,an,evalOp,St.ev,Av.get,St.put,ofV,ai,Nat.reduceEqDiff,↓reduceIte,and_true,aO,hadd];refine⟨?_,AZ _ _⟩;simp only[bz,Av.get,Nat.reduceEqDiff,↓reduceIte,bg,dk,dm,and_self]
  ·intro _
   simp only[ai,↓reduceIte,aO];have hM:bE (mm 256)=bE m2:=by
    unfold bE;refine List.map_congr_left fun k hk=>?_;have:k<256:=by simpa using hk
    simp[mm,this]
   have hl:ao Tryz.prog 3 (.ptr 2 5) [obF,obR,.cells (r6 .nilsl 4++bE m2) false]=some (.int .i64 4):=by simp[ld3,ldC,r6]
   have hmk:cX Tryz.prog 257 (.int .i64 4) (.int .i64 4) [obF,obR,.cells (r6 .nilsl 4++bE m2) false]=some (.sl 3 0 4 0,[obF,obR,.cells (r6 .nilsl 4++bE m2) false,.cells [.nilptr,.nilptr,.nilptr,.nilptr] false]):=by kernel_rfl
   have hst:aA Tryz.prog 257 (.ptr 2 4) (.sl 3 0 4 0) [obF,obR,.cells (r6 .nilsl 4++bE m2) false,.cells [.nilptr,.nilptr,.nilptr,.nilptr] false]=some [obF,obR,.cells (r6 (.sl 3 0 4 0) 4++bE m2) false,.cells [.nilptr,.nilptr,.nilptr,.nilptr] false]:=by
    simp[FM,stC,r6,AV.cells,AV.isC,cz]
   rw[hM];refine .seq (.region [] (by decide) ?_);simp only[al,gdA,ae,aa,ah,an,evalOp,St.ev,Av.get,St.put,ai,Nat.reduceEqDiff,↓reduceIte,Option.map_some,Nat.add_zero,Nat.zero_add,bl,nf,wI,wG,hl,hmk,hst];refine .seq (W.runs mixed enters 6 [(3,.ptr 2 0)] vr (by kernel_rfl) (.inl ?_));simp only[ai];refine .seq (.region [] (by decide) ?_);simp only[al,gdA,ae,aa,ah,an,evalOp,St.ev,Av.get,St.put,ai,↓reduceIte];exact .ret ⟨_,rfl,rfl,_,rfl,rfl⟩
def obB:OB:=.cells [.int .u32 0,.int .i32 1,.int .u32 0,.iface 228 (.ptr 2 0),.vsl 0 true []] false
def obD:OB:=.cells [.int .u32 1,.int .i32 0,.int .u32 0,.iface 228 (.ptr 2 0),.vsl 0 true []] false
def rB:List OB:=vr.drop 2
theorem A0:aY Tryz.prog 176 [.ptr 1 0] [obF,obR] (.ret (.iface 228 (.ptr 2 0))) vr:=by
 have hl:ao Tryz.prog 25 (.ptr 1 4) [obF,obR]=some (.sl 0 0 8 0):=by kernel_rfl
 refine aY.ofX Tryz.func176 rfl (ab enters Tryz.func176 rfl) (by simp[Tryz.ntmps176]) ?_;show W Tryz.prog 132 2 none _ _ _;refine .seq (.region [] (by decide) ?_);simp only[al,gdA,ae,aa,ah,an,evalOp,St.ev,St.put,aL,ofV,ai];refine .seq (.region [] (by decide) ?_);simp only[al,gdA,ae,aa,ah,an,evalOp,St.ev,Av.get,St.put,ai,Nat.reduceEqDiff,↓reduceIte,Option.map_some,Nat.zero_add,bl,nb,hl];refine .seq (.seq (.region [] (by decide) ?_))
 simp only[al,deN,gdA,ae,aa,ah,an,evalOp,St.ev,Av.get,St.put,ofV,ai,Nat.reduceEqDiff,↓reduceIte,List.getElem?_cons_zero,List.getElem?_cons_succ,List.getElem?_toArray,Option.map_some,Option.bind_some,beq_true,aU,Gx,dv];refine .cond (t:=false) rfl (.skip ?_);simp only[ai];refine .seq (.region [] (by decide) ?_);simp only[al,gdA,ae,aa,ah,an,evalOp,St.ev,St.put,ofV,ai];refine .seq (.seq (.region [] (by decide) ?_));simp only[al,gdA,ae,aa,ah,an,evalOp,St.ev,St.put,ofV,ai];refine .block (.qU (.step ?_));refine .seq (.seq (.region [] (by decide) ?_))
 simp only[al,deN,gdA,ae,aa,ah,an,evalOp,St.ev,Av.get,St.put,ai,Nat.reduceEqDiff,↓reduceIte,Option.map_some,Gx,cU];refine .cond (t:=true) rfl (.skip ?_);simp only[ai];have hi:ak Tryz.prog 25 (.sl 0 0 8 0) (.int .i64 0) [obF,obR]=some (.ptr 0 0):=by kernel_rfl
 have hs:ao Tryz.prog 9 (.ptr 0 0) [obF,obR]=some (.str [13,10,32]):=by kernel_rfl
 refine .seq (.block (.seq (.seq (.region [] (by decide) ?_))));simp only[al,deN,gdA,ae,aa,ah,an,evalOp,St.ev,Av.get,St.put,ofV,ai,Nat.reduceEqDiff,↓reduceIte,Option.map_some,List.length_cons,List.length_nil,Nat.reduceAdd,Nat.zero_add,hi,hs,ls9,ir];refine .cond (t:=true) rfl (.seq (.region [.sh (.ret (.ptr 2 0)) vr] (by decide) ?_));have hmi:∀d,Tryz.prog.underlying 228=some d→(match d with| .interface _=>false|_=>true)=true:=by intro d hd;rw[Tryz.underlying228]at hd;cases hd;rfl
 simp only[al,gdA,ae,aa,ah,an,evalOp,St.ev,Av.get,St.put,ai,Nat.reduceEqDiff,↓reduceIte,List.map_cons,List.map_nil,List.nil_append,List.append_nil,Tryz.underlying228];refine⟨Hu,?_⟩;exact .ret ⟨_,rfl,rfl,_,rfl,rfl⟩
theorem Eh:aY Tryz.prog 143 [.ptr 1 0] [obF,obR] (.ret (.tup [])) (obF::obB::rB):=by
 refine aY.ofX Tryz.func143 rfl (ab enters Tryz.func143 rfl) (by simp[Tryz.ntmps143]) ?_;show W Tryz.prog 10 2 none _ _ _;have h1:aA Tryz.prog 175 (.ptr 1 3) (.iface 228 (.ptr 2 0)) vr=some (obF::.cells [.int .u32 0,.int .i32 1,.int .u32 0,.iface 228 (.ptr 2 0),.sl 0 0 8 0] false::rB):=by kernel_rfl
 have h2:aA Tryz.prog 25 (.ptr 1 4) (.vsl 0 true []) (obF::.cells [.int .u32 0,.int .i32 1,.int .u32 0,.iface 228 (.ptr 2 0),.sl 0 0 8 0] false::rB)=some (obF::obB::rB):=by kernel_rfl
 refine .seq (.region [.sh (.ret (.iface 228 (.ptr 2 0))) vr] (by decide) ?_);simp only[al,gdA,ae,aa,ah,an,evalOp,St.ev,Av.get,St.put,aL,ai,Nat.reduceEqDiff,↓reduceIte,List.map_cons,List.map_nil,List.nil_append,List.append_nil,Option.map_some,Nat.zero_add,bl,kF,h1];refine⟨A0,?_⟩;refine .region [] (by decide) ?_;simp only[al,gdA,ae,aa,ah,an,evalOp,St.ev,Av.get,St.put,ofV,Nat.reduceEqDiff,↓reduceIte,Option.map_some,and_self,Nat.zero_add,bl,nb,h2];exact⟨_,rfl,rfl,_,rfl,rfl⟩
theorem A1(x:Bool)(l:List Bytes)(h2:l.length%2=0)(hl:0<l.length∧l.length≤1000):
    aY Tryz.prog 106 [.vsl 0 x (l.map .str)] [] (.ret (.ptr 1 0)) [.cells (l.map .str) true,.cells [.int .u32 0,.int .i32 0,.int .u32 0,.nilif,.sl 0 0 l.length 0] false]:=by
  refine aY.ofX Tryz.func106 rfl (ab enters Tryz.func106 rfl) (by simp[Tryz.ntmps106]) ?_;show W Tryz.prog 12 0 none _ _ _;have hap:aE Tryz.prog 25 25 (.vsl 0 true []) (.vsl 0 x (l.map .str)) []=some (.sl 0 0 l.length 0,[.cells (l.map .str) true]):=by
    have h0: ¬l.length=0:=by omega
    simp only[aE,apX,Tryz.underlying25,gH,cp,cO,esz,↓reduceIte,List.length_map,h0,List.length_nil,Nat.zero_add,dE,List.flatMap_nil,List.nil_append];rw[if_pos (by omega)]
  have hb:bW Tryz.prog 177 [(2,.sl 0 0 l.length 0)]=some (.agg [.int .u32 0,.int .i32 0,.int .u32 0,.nilif,.sl 0 0 l.length 0]):=by kernel_rfl
  have hr:aH Tryz.prog .rem 3 (.int .i64 (l.length:Int)) (.int .i64 2)=some (.int .i64 0):=by
    have:((l.length:Int)).tmod 2=0:=by rw[Int.tmod_eq_emod_of_nonneg (by omega)];omega
    simp[aH,this]
  refine .seq (.region [] (by decide) ?_);simp only[al,gdA,ae,aa,ah,an,evalOp,St.ev,St.put,aL,ofV,ai];refine .seq (.seq (.region [] (by decide) ?_));simp only[al,deN,gdA,ae,aa,ah,an,evalOp,St.ev,Av.get,St.put,ofV,ai,Nat.reduceEqDiff,↓reduceIte,Option.map_some,Gy,List.length_map,hr,dv];refine .cond (t:=false) rfl (.skip ?_);simp only[ai];refine .seq (.region [] (by decide) ?_)
  simp only[al,deN,gdA,ae,aa,ah,an,evalOp,St.ev,Av.get,St.put,ofV,ai,Nat.reduceEqDiff,↓reduceIte,List.map_cons,List.map_nil,List.nil_append,Option.map_some,AV.cells,List.length_cons,List.length_nil,and_self,Nat.zero_add,List.cons_append,hap,hb,AV.told];exact .ret ⟨_,rfl,rfl,_,rfl,rfl⟩
def cT(s p:Bytes):Bool:=decide (p.length≤s.length)&&(s.take p.length==p)
set_option maxRecDepth 4000 in
theorem qf(s p:Bytes):ad Tryz.prog 207 [.str s,.str p] (.ret (.bool (cT s p))):=by
  have key: ∀b c:Bool,decide ((s.length:Int)≥(p.length:Int))=b→(b=true→p.length≤s.length∧(s.take p.length==p)=c)→(b&&c)=cT s p→
      ad Tryz.prog 207 [.str s,.str p] (.ret (.bool (cT s p))):=by
    intro b c h1 h2 h3;refine ad.of Tryz.func207 rfl (ab enters Tryz.func207 rfl) (by simp[Tryz.ntmps207]) ?_;show W Tryz.prog 18 0 none _ _ _;refine .seq (.region [] (by decide) ?_);simp only[al,gdA,ae,aa,ah,an,evalOp,St.ev,St.put,aL,ofV,ai];refine .seq (.region [] (by decide) ?_);cases b with
    | true=>
      obtain⟨h4,h5⟩:=h2 rfl;simp only[al,deN,gdA,ae,aa,ah,an,evalOp,St.ev,Av.get,St.put,ofV,ai,Nat.reduceEqDiff,↓reduceIte,List.getElem?_cons_zero,List.getElem?_cons_succ,List.getElem?_toArray,Option.map_some,Option.map_none,Option.bind_some,beq_true,aU,cond_true,Nat.zero_add,List.drop_zero,ls9,cB,h1,ss9,gl .i64 p.length h4,Nat.sub_zero,nQ,h5];exact .ret ⟨_,rfl,_,rfl,by rw[←h3];exact .refl _⟩
    | false=>
      simp only[al,deN,gdA,ae,aa,ah,an,evalOp,St.ev,Av.get,St.put,ofV,ai,Nat.reduceEqDiff,↓reduceIte,List.getElem?_cons_zero,List.getElem?_cons_succ,List.getElem?_toArray,Option.map_some,Option.bind_some,beq_true,Bool.false_eq_true,aU,Nat.zero_add,ls9,cB,h1];exact .ret ⟨_,rfl,_,rfl,by rw[←h3];exact .refl _⟩
  rcases Nat.lt_or_ge s.length p.length with h|h
  · refine key false false (decide_eq_false (by omega)) (fun h=>by cases h) ?_
    unfold cT;rw[decide_eq_false (by omega)];rfl
  · refine key true _ (decide_eq_true (by omega)) (fun _=>⟨h,rfl⟩) ?_
    unfold cT;rw[decide_eq_true h]
theorem yC(s p:Bytes):ad Tryz.prog 237 [.str s,.str p] (.ret (.bool (cT s p))):=by
 refine ad.of Tryz.func237 rfl (ab enters Tryz.func237 rfl) (by simp[Tryz.ntmps237]) ?_;show W Tryz.prog 8 0 none _ _ _;refine .seq (.region [] (by decide) ?_);simp only[al,gdA,ae,aa,ah,an,evalOp,St.ev,St.put,aL,ofV,ai];refine .seq (.region [.pure (.ret (.bool (cT s p)))] (by decide) ?_);simp only[al,gdA,ae,aa,ah,an,evalOp,St.ev,Av.get,St.put,ai,Nat.reduceEqDiff,↓reduceIte,aG,AV.hfs,AV.hf,Bool.and_self,List.map_cons,List.map_nil,List.nil_append,List.append_nil,and_self,Nat.zero_add];exact⟨qf s p,.ret ⟨_,rfl,_,rfl,.refl _⟩⟩
/-! ### The tree -/
def jD(p:Int):AV:=.vptr [.str [],.int .i64 p,.str [],.nilptr,.nilsl]
def n6:AV:=.vptr [.str [],.int .i64 0,.str [],.nilptr,.vsl 0 false [jD 6,.nilptr,.nilptr,jD 8]]
def n4:AV:=.vptr [.str [],.int .i64 0,.str [10],n6,.nilsl]
def n9:AV:=.vptr [.str [],.int .i64 0,.str [],.nilptr,.vsl 0 false [jD 2,.nilptr,.nilptr,jD 4]]
def tm:List AV:=r6 (.vsl 0 false [.nilptr,n9,n4,.nilptr]) 4++bE m2
def tree:AV:=.vptr tm
theorem yD(s:Bytes)(r:Bytes):aG (obF::obD::rB) [.ptr 2 0,.str s] (.ret (.str r))=some [tree,.str s]:=by kernel_rfl
noncomputable def JU:Code:=match Tryz.f274.body with
 |some (.seq _ (.seq _ (.seq _ (.seq _ (.seq (.block _ (.loop c)) _)))))=>c
 |_=>.skip
def stL(node:AV)(s:Bytes)(n:Nat):St:=⟨[(0,tree),(2,.bool false),(6,.str []),(7,.int .i64 0),(8,.bool false),(9,.int .i64 0),(10,node),(1,.str s),(11,.int .i64 (n:Int))],[],[]⟩
def A2(Q:Ex→St→Prop)(k:Nat)(f:Bool):Prop:=∀T,aC T [(6,.str []),(7,.int .i64 (k:Int)),(8,.bool f)]→Q (.exit 0) ⟨T,[],[]⟩
def lpL(Q:Ex→St→Prop)(node:AV)(s:Bytes)(n:Nat):Prop:=LW Tryz.prog 107 0 none JU Q (stL node s n)
theorem LW.bG{P:Program}{n m:Nat}{R:Option Nat}{c:Code}{Q:Ex→St→Prop}{a:St}(C:List (Nat×AV))(hT:aC a.T C)(h:LW P n m R c Q ⟨C,a.H,a.D⟩):LW P n m R c Q a:=
 fun B act w r=>h B act w (r.bG (b:=⟨C,a.H,a.D⟩) hT rfl rfl)
theorem nq1(l:List AV):bM Tryz.prog .neq 256 (.vptr l) .nilptr=some (.bool true):=by simp[bM,Tryz.underlying256]
theorem nq2:bM Tryz.prog .neq 256 .nilptr .nilptr=some (.bool false):=by simp[bM,Tryz.underlying256]
theorem nq3(l:List AV)(t:TypeId)(o:BinOp):aH Tryz.prog o t (.vptr l) .nilptr=none:=by cases o<;>rfl
theorem nq4(t:TypeId)(o:BinOp):aH Tryz.prog o t .nilptr .nilptr=none:=by cases o<;>rfl
theorem jo{Q:Ex→St→Prop}(s:Bytes)(n:Nat)(h:A2 Q 0 false):lpL Q .nilptr s n:=by
 refine .step ?_;refine .seq (.seq (.region [] (by decide) ?_));simp only[al,gdA,ae,aa,ah,an,evalOp,St.ev,Av.get,St.put,ofV,ai,Nat.reduceEqDiff,↓reduceIte,stL,nq2,nq4];refine .cond (t:=false) rfl (.exit ?_);exact h _ ⟨rfl,rfl,rfl,trivial⟩
theorem ne1(t:TypeId)(l c:Nat)(hk:bC Tryz.prog t=1):dB Tryz.prog .neq t .nilsl (.const (.slice none l c))=some (.bool false):=by simp[dB,hk]
theorem ne2(t:TypeId)(x w:AV)(o:BinOp):aH Tryz.prog o t .nilsl w=none:=by cases o<;>rfl
theorem ne3(t:TypeId)(o:BinOp)(w:AV):bM Tryz.prog o t .nilsl w=none:=by cases o<;>simp[bM]
theorem A3:bC Tryz.prog 257=1:=by simp[bC,Tryz.underlying257]
theorem ne4(t:TypeId)(l c w:Nat)(x:Bool)(v:AV)(vs:List AV)(hk:bC Tryz.prog t=1):dB Tryz.prog .neq t (.vsl w x (v::vs)) (.const (.slice none l c))=some (.bool true):=by simp[dB,hk]
theorem ne5(t:TypeId)(w:Nat)(x:Bool)(vs:List AV)(u:AV)(o:BinOp):aH Tryz.prog o t (.vsl w x vs) u=none:=by cases o<;>rfl
theorem ne6(t:TypeId)(w:Nat)(x:Bool)(vs:List AV)(u:AV)(o:BinOp):bM Tryz.prog o t (.vsl w x vs) u=none:=by cases o<;>simp[bM]
theorem kQ{Q:Ex→St→Prop}(p:Nat)(hp:0<p)(s:Bytes)(n:Nat)(h:A2 Q n true):lpL Q (jD p) s n:=by
 refine .step ?_;refine .seq (.seq (.region [] (by decide) ?_));have hd:decide ((p:Int)>0)=true:=decide_eq_true (by omega);simp only[al,gdA,ae,aa,ah,an,evalOp,St.ev,Av.get,St.put,ofV,ai,Nat.reduceEqDiff,↓reduceIte,stL,jD,nq1,nq3];refine .cond (t:=true) rfl (.skip ?_);simp only[ai];refine .block (.seq (.seq (.region [] (by decide) ?_)))
 simp only[al,gdA,ae,aa,ah,an,evalOp,St.ev,Av.get,St.put,ofV,ai,Nat.reduceEqDiff,↓reduceIte,List.getElem?_cons_zero,List.getElem?_cons_succ,List.getElem?_toArray,Option.map_some,Option.bind_some,beq_true,Bool.not_false,Bool.false_eq_true,aU,cond_true,List.drop_succ_cons,List.drop_zero,bl,ji,lw3,iq,hd,qK];refine .cond (t:=true) rfl (.seq (.region [] (by decide) ?_));simp only[al,gdA,ae,aa,ah,an,evalOp,St.ev,Av.get,St.put,ai,Nat.reduceEqDiff,↓reduceIte,Option.map_some,List.drop_succ_cons,List.drop_zero,bl,ji,lw3];refine .seq (.region [] (by decide) ?_)
 simp only[al,gdA,ae,aa,ah,an,evalOp,St.ev,Av.get,St.put,ai,Nat.reduceEqDiff,↓reduceIte,Option.map_some,List.drop_zero,bl,wC,lw9];refine .seq (.region [] (by decide) ?_);simp only[al,gdA,ae,aa,ah,an,evalOp,St.ev,Av.get,St.put,ai,Nat.reduceEqDiff,↓reduceIte];refine .region [] (by decide) ?_;simp only[al,gdA,ae,aa,ah,an,evalOp,St.ev,St.put,ofV,ai];refine .seq (.seq (.region [] (by decide) ?_));simp only[al,gdA,ae,aa,ah,an,evalOp,St.ev,Av.get,St.put,ofV,ai,Nat.reduceEqDiff,↓reduceIte];cases s with
 |nil=>
  refine .cond (t:=true) rfl (.exit ?_);exact h _ ⟨rfl,rfl,rfl,trivial⟩
 |cons b t=>
  refine .cond (t:=false) rfl (.skip ?_);simp only[ai];refine .seq (.region [] (by decide) ?_);have h2:=fun w=>ne2 257 w w .neq;have h3:=fun w=>ne3 257 .neq w;simp only[al,gdA,ae,aa,ah,an,evalOp,St.ev,Av.get,St.put,ofV,ai,Nat.reduceEqDiff,↓reduceIte,Option.map_some,and_self,List.drop_succ_cons,List.drop_zero,bl,jj,pY,h2,h3,ne1 _ _ _ A3];refine .cond (t:=false) rfl (.seq (.region [] (by decide) ?_))
  simp only[al,gdA,ae,aa,ah,an,evalOp,St.ev,Av.get,St.put,ofV,ai,Nat.reduceEqDiff,↓reduceIte,List.map_cons,List.map_nil,List.nil_append,List.append_nil,List.getElem?_cons_zero,List.getElem?_cons_succ,List.getElem?_toArray,Option.map_some,Option.bind_some,beq_true,aU,List.drop_succ_cons,List.drop_zero,bl,kG,lw9];refine .cond (t:=false) rfl (.exit ?_);exact h _ ⟨rfl,rfl,rfl,trivial⟩
theorem vt{Q:Ex→St→Prop}(s:Bytes)(n:Nat)(hn:n<100)(h:∀t,s=10::t→lpL Q n6 t (n+1))(h0:cT s [10]=false→A2 Q 0 false):lpL Q n4 s n:=by
 refine .step ?_;refine .seq (.seq (.region [] (by decide) ?_));simp only[al,gdA,ae,aa,ah,an,evalOp,St.ev,Av.get,St.put,ofV,ai,Nat.reduceEqDiff,↓reduceIte,stL,n4,nq1,nq3];refine .cond (t:=true) rfl (.skip ?_);simp only[ai];refine .block (.seq (.seq (.region [] (by decide) ?_)));simp only[al,gdA,ae,aa,ah,an,evalOp,St.ev,Av.get,St.put,ofV,ai,Nat.reduceEqDiff,↓reduceIte,List.getElem?_cons_zero,List.getElem?_cons_succ,List.getElem?_toArray,Option.map_some,Option.bind_some,beq_true,Bool.false_eq_true,aU,List.drop_succ_cons,List.drop_zero,bl,ji,lw3,iq];refine .cond (t:=false) rfl (.skip ?_)
 simp only[ai];refine .seq (.seq (.region [] (by decide) ?_));simp only[al,gdA,ae,aa,ah,an,evalOp,St.ev,Av.get,St.put,ofV,ai,Nat.reduceEqDiff,↓reduceIte];cases s with
 |nil=>
  refine .cond (t:=true) rfl (.exit ?_);exact h0 rfl _ ⟨rfl,rfl,rfl,trivial⟩
 | cons b t=>
  refine .cond (t:=false) rfl (.skip ?_);simp only[ai];refine .seq (.region [] (by decide) ?_);have h2:=fun w=>ne2 257 w w .neq;have h3:=fun w=>ne3 257 .neq w;simp only[al,gdA,ae,aa,ah,an,evalOp,St.ev,Av.get,St.put,ofV,ai,Nat.reduceEqDiff,↓reduceIte,Option.map_some,and_self,List.drop_succ_cons,List.drop_zero,bl,jj,pY,h2,h3,ne1 _ _ _ A3];refine .cond (t:=false) rfl (.seq (.region [.pure (.ret (.bool (cT (b::t) [10])))] (by decide) ?_))
  simp only[al,gdA,ae,aa,ah,an,evalOp,St.ev,Av.get,St.put,ofV,ai,Nat.reduceEqDiff,↓reduceIte,aG,AV.hfs,AV.hf,Bool.and_self,List.map_cons,List.map_nil,List.nil_append,List.append_nil,List.getElem?_cons_zero,List.getElem?_cons_succ,List.getElem?_toArray,Option.map_some,Option.bind_some,beq_true,aU,Bool.and_true,Bool.true_and,and_self,true_and,and_true,List.drop_succ_cons,List.drop_zero,bl,kG,lw9];refine⟨yC _ _,?_⟩;cases hp:cT (b::t) [10]with
  |false=>
   refine .cond (t:=false) (by simp[St.ev,Av.get]) (.exit ?_);exact h0 hp _ ⟨rfl,rfl,rfl,trivial⟩
  | true=>
   have hb:b=10:=by
    unfold cT at hp;simp at hp;exact hp
   subst hb;refine .cond (t:=true) (by simp[St.ev,Av.get]) (.seq (.region [] (by decide) ?_));have ha:=FX 3 n 1 (by omega);simp only[al,deN,gdA,ae,aa,ah,an,evalOp,St.ev,Av.get,St.put,ai,Nat.reduceEqDiff,↓reduceIte,Option.map_some,List.length_cons,List.length_nil,Nat.zero_add,List.drop_succ_cons,List.drop_zero,bl,kG,lw9,ls9,ha];refine .seq (.region [] (by decide) ?_);have hb:=bn (n:=t.length+1) .i64 1 (by simp)
   simp only[al,deN,gdA,ae,aa,ah,an,evalOp,St.ev,Av.get,St.put,ai,Nat.reduceEqDiff,↓reduceIte,Option.map_some,Option.map_none,List.length_cons,List.length_nil,Nat.zero_add,List.drop_succ_cons,List.drop_zero,bl,kG,lw9,ls9,ss9,hb,Nat.add_sub_cancel];refine .region [] (by decide) ?_;simp only[al,gdA,ae,aa,ah,an,evalOp,St.ev,Av.get,St.put,ai,Nat.reduceEqDiff,↓reduceIte,Option.map_some,List.drop_succ_cons,List.drop_zero,aO,bl,wD,sY];refine LW.bG (a:=⟨_,_,_⟩) (stL n6 t (n+1)).T ?_ (h t rfl);refine⟨rfl,rfl,rfl,rfl,rfl,rfl,rfl,?_,?_,trivial⟩
   ·simp[Av.get,List.take_of_length_le]
   ·simp[Av.get]
theorem A4(b:UInt8):m2 b.toNat≤4:=by
 unfold m2;split
 ·omega
 ·exact AU _
theorem rC {Q:Ex→St→Prop} (x:Bool) (tb:List AV) (e:AV) (hl:tb=[tb.getD 0 .junk,tb.getD 1 .junk,tb.getD 2 .junk,tb.getD 3 .junk]) (rest:List AV) (ho:tb.all AV.one=true) (s:Bytes) (n:Nat) (hn:n<100)
    (h0:(s=[]∨ ∃b t,s=b::t∧m2 b.toNat=4)→A2 Q 0 false)
    (h1: ∀b t nd,s=b::t→m2 b.toNat<4→tb[m2 b.toNat]? =some nd→lpL Q nd t (n+1)):
    lpL Q (.vptr (.str []::.int .i64 0::.str []::.nilptr::.vsl 0 x tb::rest)) s n:=by
  have hne: ∃v vs,tb=v::vs:=⟨_,_,hl⟩
  obtain⟨v,vs,hvs⟩:=hne;refine .step ?_;refine .seq (.seq (.region [] (by decide) ?_));simp only[al,gdA,ae,aa,ah,an,evalOp,St.ev,Av.get,St.put,ofV,ai,Nat.reduceEqDiff,↓reduceIte,stL,nq1,nq3];refine .cond (t:=true) rfl (.skip ?_);simp only[ai];refine .block (.seq (.seq (.region [] (by decide) ?_)));simp only[al,gdA,ae,aa,ah,an,evalOp,St.ev,Av.get,St.put,ofV,ai,Nat.reduceEqDiff,↓reduceIte,List.getElem?_cons_zero,List.getElem?_cons_succ,List.getElem?_toArray,Option.map_some,Option.bind_some,beq_true,Bool.false_eq_true,aU,List.drop_succ_cons,List.drop_zero,bl,ji,lw3,iq]
  refine .cond (t:=false) rfl (.skip ?_);simp only[ai];refine .seq (.seq (.region [] (by decide) ?_));simp only[al,gdA,ae,aa,ah,an,evalOp,St.ev,Av.get,St.put,ofV,ai,Nat.reduceEqDiff,↓reduceIte];cases s with
  | nil=>
    refine .cond (t:=true) rfl (.exit ?_);exact h0 (.inl rfl) _ ⟨rfl,rfl,rfl,trivial⟩
  | cons b t=>
    refine .cond (t:=false) rfl (.skip ?_);simp only[ai];refine .seq (.region [] (by decide) ?_);have h2:=fun u=>ne5 257 0 x (v::vs) u .neq;have h3:=fun u=>ne6 257 0 x (v::vs) u .neq;have h4:=fun l c=>ne4 257 l c 0 x v vs A3;subst hvs;simp only[al,gdA,ae,aa,ah,an,evalOp,St.ev,Av.get,St.put,ofV,ai,Nat.reduceEqDiff,↓reduceIte,Option.map_some,and_self,List.drop_succ_cons,List.drop_zero,bl,jj,pY,h2,h3,h4];refine .cond (t:=true) rfl (.seq ?_);have hx:cf Tryz.prog 9 (.str (b::t)) (.int .i64 0)=some (aS b):=wA Tryz.underlying9 .i64 0 (by simp)
    have hia:ak Tryz.prog 230 (.vptr (bE m2)) (aS b) []=some (.vptr ((bE m2).drop b.toNat)):=by
      have:=b.toNat_lt;simp[aS,ak,bt,Tryz.underlying230,tz5,this]
    have hld:ao Tryz.prog 5 (.vptr ((bE m2).drop b.toNat)) []=some (.int .u8 ((m2 b.toNat:Nat):Int)):=by
      have:=gO m2 b.toNat b.toNat_lt;simp[ao,tz5,tg5,ldA,this]
    refine W.Ap [] mixed (by kernel_rfl) (by kernel_rfl) ?_;simp only[EDg,gdA,ae,aa,evalOp,St.ev,Av.get,St.put,ofV,ai,Nat.reduceEqDiff,↓reduceIte,List.nil_append,Option.map_some,true_and,List.drop_succ_cons,List.drop_zero,List.cons_append,bl,hx,tree,tm,r6,rl,hia,hld];have hlt:=A4 b;refine .seq (.seq (.region [] (by decide) ?_));simp only[al,gdA,ae,aa,ah,an,evalOp,St.ev,Av.get,St.put,ai,Nat.reduceEqDiff,↓reduceIte,Option.map_some,List.drop_succ_cons,List.drop_zero,bl,cv8 _ (Nat.lt_of_le_of_lt hlt (by decide)),tree,tm,r6,rk,lw3,dv];rcases Nat.lt_or_ge (m2 b.toNat) 4 with h5|h5
    · refine .cond (t:=false) (by simp[St.ev,Av.get];omega) (.skip ?_)
      simp only[ai];obtain⟨nd,hnd⟩: ∃nd,(v::vs)[m2 b.toNat]? =some nd:=by
        have:(v::vs).length=4:=by rw[hl];rfl
        exact⟨_,List.getElem?_eq_getElem (by omega)⟩
      have hone:nd.cells=[nd]:=dI (List.all_eq_true.1 ho nd (List.mem_of_getElem? hnd));have hia2:ak Tryz.prog 257 (.vsl 0 x (v::vs)) (.int .u8 ((m2 b.toNat:Nat):Int)) []=some (.vptr [nd]):=by
        have:=lO (P:=Tryz.prog) (t:=257) Tryz.underlying257 Al 0 x (v::vs) .u8 (m2 b.toNat:Int) [] (v:=nd) ⟨by omega,by simpa using hnd⟩ (by rw[hone];rfl);rw[hone]at this;exact this
      refine .seq (.region [] (by decide) ?_);simp only[al,gdA,ae,aa,ah,an,evalOp,St.ev,Av.get,St.put,ai,Nat.reduceEqDiff,↓reduceIte,Option.map_some,List.drop_succ_cons,List.drop_zero,bl,jj,pY,hia2,sY];refine .seq (.region [] (by decide) ?_);have hb:=JR (n:=t.length+1) .i64 (by simp);simp only[al,deN,gdA,ae,aa,ah,an,evalOp,St.ev,Av.get,St.put,ofV,ai,Nat.reduceEqDiff,↓reduceIte,Option.map_some,Option.map_none,List.length_cons,List.drop_succ_cons,List.drop_zero,ss9,hb,Nat.add_sub_cancel];refine .region [] (by decide) ?_
      simp only[al,gdA,ae,aa,ah,an,evalOp,St.ev,Av.get,St.put,ofV,ai,Nat.reduceEqDiff,↓reduceIte,aO,AW 3 n (by omega)];refine LW.bG (a:=⟨_,_,_⟩) (stL nd t (n+1)).T ?_ (h1 b t nd rfl h5 hnd);refine⟨rfl,rfl,rfl,rfl,rfl,rfl,rfl,?_,?_,trivial⟩
      · simp[Av.get,List.take_of_length_le]
      · simp[Av.get]
    · refine .cond (t:=true) (by simp[St.ev,Av.get];omega) (.exit ?_)
      exact h0 (.inr ⟨b,t,rfl,by omega⟩) _ ⟨rfl,rfl,rfl,trivial⟩
def lk:Bytes→Nat
 |13::10::x::_=>if x=9∨x=32 then 3 else 0
 |10::x::_=>if x=9∨x=32 then 2 else 0
 |_=>0
theorem fP(b:UInt8):(m2 b.toNat=0∧b=9)∨(m2 b.toNat=1∧b=10)∨(m2 b.toNat=2∧b=13)∨(m2 b.toNat=3∧b=32)∨(m2 b.toNat=4∧b≠9∧b≠10∧b≠13∧b≠32):=by
 have key:∀n,n<256→(m2 n=0∧n=9)∨(m2 n=1∧n=10)∨(m2 n=2∧n=13)∨(m2 n=3∧n=32)∨(m2 n=4∧n≠9∧n≠10∧n≠13∧n≠32):=by decide+kernel
 have e:∀k:UInt8,b=k↔b.toNat=k.toNat:=fun k=>⟨fun h=>by rw[h],fun h=>UInt8.toNat_inj.1 h⟩;simp only[ne_eq,e];exact key _ b.toNat_lt
theorem FZ(x:UInt8)(t:Bytes):lk (10::x::t)=if x=9∨x=32 then 2 else 0:=by
 unfold lk;split<;>simp_all
theorem F4(y x:UInt8)(t:Bytes):lk (13::y::x::t)=if y=10∧(x=9∨x=32)then 3 else 0:=by
 unfold lk;split<;>simp_all
theorem xc(b:UInt8)(t:Bytes)(h:b≠10∧b≠13):lk (b::t)=0:=by
 unfold lk;split<;>simp_all
theorem yE(s:Bytes):ad Tryz.prog 274 [tree,.str s,.bool false] (.ret (.tup [.str [],.int .i64 (lk s:Int),.bool (decide (lk s≠0))])):=by
 refine ad.of Tryz.func274 rfl (ab enters Tryz.func274 rfl) (by simp[Tryz.ntmps274]) ?_;show W Tryz.prog 107 0 none _ _ _;refine .seq (.region [] (by decide) ?_);simp only[al,gdA,ae,aa,ah,an,evalOp,St.ev,St.put,aL,ofV,ai,Nat.reduceAdd,Nat.zero_add];refine .seq (.region [] (by decide) ?_);simp only[al,gdA,ae,aa,ah,an,evalOp,St.ev,St.put,ofV,ai];refine .seq (.region [] (by decide) ?_);simp only[al,gdA,ae,aa,ah,an,evalOp,St.ev,Av.get,St.put,ai,Nat.reduceEqDiff,↓reduceIte,Option.map_some,List.drop_zero,bl,tree,rj];refine .seq (.region [] (by decide) ?_)
 simp only[al,gdA,ae,aa,ah,an,evalOp,St.ev,St.put,ofV,ai];refine .seq (.block (.qU ?_));refine LW.bG (a:=⟨_,_,_⟩) (stL tree s 0).T ⟨rfl,rfl,rfl,rfl,rfl,rfl,rfl,rfl,rfl,trivial⟩ ?_;generalize hQ:aO 0 _=Q;have fin:∀k f,lk s=k→decide (lk s≠0)=f→A2 Q k f:=by
  rintro k f rfl rfl T ⟨h1,h2,h3,_⟩;subst hQ;simp only[ai,↓reduceIte,aO];refine .ret ⟨_,rfl,.tup [.str [],.int .i64 (lk s:Int),.bool (decide (lk s≠0))],?_,.refl _⟩;have hr:eH Tryz.prog Tryz.f274.results.toList ⟨T,[],[]⟩=some (.tup [.str [],.int .i64 (lk s:Int),.bool (decide (lk s≠0))]):=by
   show Option.map _ (some [_,_,_])=_;simp only[Option.map_some,h1,h2,h3]
  rw[hr];rfl
 show lpL Q tree s 0;refine rC false [.nilptr,n9,n4,.nilptr] .junk rfl (.int .i64 4::bE m2) rfl s 0 (by omega) ?_ ?_
 ·rintro(rfl|⟨b,t,rfl,hm⟩)
  ·exact fin 0 false rfl rfl
  ·have:lk (b::t)=0:=xc b t (by rcases fP b with h|h|h|h|h<;>first|omega|exact⟨h.2.2.1,h.2.2.2.1⟩)
   exact fin 0 false this (by rw[this];rfl)
 ·rintro b t nd rfl hlt hnd
  rcases fP b with⟨hm,hb⟩|⟨hm,hb⟩|⟨hm,hb⟩|⟨hm,hb⟩|⟨hm,hb⟩
  ·rw[hm]at hnd;cases hnd
   have:lk (b::t)=0:=xc b t (by subst hb;decide);exact jo t 1 (fin 0 false this (by rw[this];rfl))
  ·rw [hm]at hnd;cases hnd
   subst hb;refine rC false [jD 2,.nilptr,.nilptr,jD 4] .junk rfl [] rfl t 1 (by omega) ?_ ?_
   ·rintro(rfl|⟨x,u,rfl,hx⟩)
    ·exact fin 0 false rfl rfl
    ·have:lk (10::x::u)=0:=by
      rw[FZ,if_neg];rcases fP x with h|h|h|h|h<;>first|omega|(rintro(h9|h9);exact h.2.1 h9;exact h.2.2.2.2 h9)
     exact fin 0 false this (by rw[this];rfl)
   ·rintro x u nd rfl hlt hnd
    rcases fP x with⟨hm,hb⟩|⟨hm,hb⟩|⟨hm,hb⟩|⟨hm,hb⟩|⟨hm,hb⟩
    ·rw[hm]at hnd;cases hnd
     subst hb;exact kQ 2 (by decide) u 2 (fin 2 true rfl rfl)
    ·rw[hm]at hnd;cases hnd
     subst hb;exact jo u 2 (fin 0 false rfl rfl)
    ·rw[hm]at hnd;cases hnd
     subst hb;exact jo u 2 (fin 0 false rfl rfl)
    ·rw[hm]at hnd;cases hnd
     subst hb;exact kQ 4 (by decide) u 2 (fin 2 true rfl rfl)
    ·omega
  ·rw [hm]at hnd;cases hnd
   subst hb;refine vt t 1 (by omega) ?_ ?_
   ·rintro u rfl
    refine rC false [jD 6,.nilptr,.nilptr,jD 8] .junk rfl [] rfl u 2 (by omega) ?_ ?_
    ·rintro(rfl|⟨x,v,rfl,hx⟩)
     ·exact fin 0 false rfl rfl
     ·have:lk (13::10::x::v)=0:=by
       rw[F4,if_neg];rintro⟨_,h9⟩;rcases fP x with h|h|h|h|h<;>first|omega|(rcases h9 with h9|h9;exact h.2.1 h9;exact h.2.2.2.2 h9)
      exact fin 0 false this (by rw[this];rfl)
    ·rintro x v nd rfl hlt hnd
     rcases fP x with⟨hm,hb⟩|⟨hm,hb⟩|⟨hm,hb⟩|⟨hm,hb⟩|⟨hm,hb⟩
     ·rw[hm]at hnd;cases hnd
      subst hb;exact kQ 6 (by decide) v 3 (fin 3 true rfl rfl)
     ·rw[hm]at hnd;cases hnd
      subst hb;exact jo v 3 (fin 0 false rfl rfl)
     ·rw[hm]at hnd;cases hnd
      subst hb;exact jo v 3 (fin 0 false rfl rfl)
     ·rw[hm]at hnd;cases hnd
      subst hb;exact kQ 8 (by decide) v 3 (fin 3 true rfl rfl)
     ·omega
   ·intro hno
    have:lk (13::t)=0:=by
     match t,hno with
     | [],_=>rfl
     | [y],_=>unfold lk;split<;>simp_all
     |y::x::u,hno=>
      rw[F4,if_neg];rintro⟨rfl,_⟩;simp[cT]at hno
    exact fin 0 false this (by rw[this];rfl)
  ·rw[hm]at hnd;cases hnd
   have:lk (b::t)=0:=xc b t (by subst hb;decide);exact jo t 1 (fin 0 false this (by rw[this];rfl))
  ·omega
/-! ### The writer -/
def cr(k:Nat):List AV:=List.replicate k (.int .u8 0)
def wrH(n:Nat)(out:Bytes):List OB:=[.cells (av out++cr (n - out.length)) false,.cells [.sl 0 0 out.length 0] false]
theorem lT(xs ys zs:List AV)(h:zs.length≤ys.length):cz (xs++ys) xs.length zs=xs++zs++ys.drop zs.length:=by
 apply List.ext_getElem?;intro i;rw[nu _ _ _ (by simp;omega)];split
 ·rename_i h1
  rw[List.append_assoc,List.getElem?_append_right h1.1,List.getElem?_append_left (by omega)]
 ·rename_i h1
  rcases Nat.lt_or_ge i xs.length with h2|h2
  ·rw[List.getElem?_append_left h2,List.append_assoc,List.getElem?_append_left h2]
  ·rw[List.getElem?_append_right h2,List.append_assoc,List.getElem?_append_right h2,List.getElem?_append_right (by omega),List.getElem?_drop]
   congr 1;omega
theorem Hv(n:Nat)(out t:Bytes)(h:out.length+t.length≤n)(hn:n≤140737488355328):
    aE Tryz.prog 305 9 (.sl 0 0 out.length 0) (.str t) (wrH n out)=some (.sl 0 0 (out.length+t.length) 0,[.cells (av (out++t)++cr (n - (out++t).length)) false,.cells [.sl 0 0 out.length 0] false]):=by
  have hbl:(av out).length=out.length:=by simp[av]
  have htl:(av t).length=t.length:=by simp[av]
  have hz:(cr (n - out.length)).length=n - out.length:=by simp[cr]
  have hset:cz (av out++cr (n - out.length)) out.length (av t)=av (out++t)++cr (n - (out++t).length):=by
    have:=lT (av out) (cr (n - out.length)) (av t) (by rw[htl,hz];omega);rw[hbl]at this;rw[this,htl];congr 1
    · simp[av]
    · simp[cr,Nat.sub_sub]
  have hc:(av t).all AV.isC=true:=by
    rw[List.all_eq_true];intro v hv;obtain⟨x,_,rfl⟩:=List.mem_map.1 hv;rfl
  have hm:List.map (fun b:UInt8=>AV.int .u8 (b.toNat:Int)) t=av t:=rfl;simp only[aE,apX,Tryz.underlying305,Tryz.underlying9,FO,cp,↓reduceIte,wrH,List.getElem?_cons_zero,esz,hm,hc,Nat.mul_one,Nat.zero_add,List.length_append,hbl,hz,hset];rw[if_pos (by refine⟨trivial,trivial,?_,?_⟩<;>omega),if_pos (by omega)];rfl
theorem A5(n:Nat)(out t:Bytes)(h:out.length+t.length≤n)(hn:n≤140737488355328):
    aY Tryz.prog 285 [.ptr 1 0,.str t] (wrH n out) (.ret (.tup [.int .i64 (t.length:Int),.nilif])) (wrH n (out++t)):=by
  refine aY.ofX Tryz.func285 rfl (ab enters Tryz.func285 rfl) (by simp[Tryz.ntmps285]) ?_;show W Tryz.prog 15 2 none _ _ _;have hl:ao Tryz.prog 305 (.ptr 1 0) (wrH n out)=some (.sl 0 0 out.length 0):=by simp[An,ldC,wrH]
  have hst:aA Tryz.prog 305 (.ptr 1 0) (.sl 0 0 (out.length+t.length) 0) [.cells (av (out++t)++cr (n - (out++t).length)) false,.cells [.sl 0 0 out.length 0] false]=some (wrH n (out++t)):=by
    simp[Am,stC,wrH,AV.cells,AV.isC,cz]
  refine .seq (.region [] (by decide) ?_);simp only[al,gdA,ae,aa,ah,an,evalOp,St.ev,St.put,aL,ofV,ai,Nat.zero_add];refine .seq (.region [] (by decide) ?_);simp only[al,deN,gdA,ae,aa,ah,an,evalOp,St.ev,Av.get,St.put,ai,Nat.reduceEqDiff,↓reduceIte,Option.map_some,bl,hl,Hv n out t h hn,hst];refine .seq (.region [] (by decide) ?_);simp only[al,deN,gdA,ae,aa,ah,an,evalOp,St.ev,Av.get,St.put,ofV,ai,Nat.reduceEqDiff,↓reduceIte,Option.map_some,ls9];exact .ret ⟨_,rfl,rfl,_,rfl,rfl⟩
theorem Ei(v:AV):fL Tryz.prog (.iface 306 v) 308 310 true=some (.tup [.iface 306 v,.bool true]):=by kernel_rfl
theorem JV(H:List OB):aY Tryz.prog 273 [.iface 306 (.ptr 1 0)] H (.ret (.iface 306 (.ptr 1 0))) H:=by
 refine aY.ofX Tryz.func273 rfl (ab enters Tryz.func273 rfl) (by simp[Tryz.ntmps273]) ?_;show W Tryz.prog 16 _ none _ _ _;refine .seq (.region [] (by decide) ?_);simp only[al,gdA,ae,aa,ah,an,evalOp,St.ev,St.put,aL,ofV,ai];refine .seq (.region [] (by decide) ?_);simp only[al,gdA,ae,aa,ah,an,evalOp,St.ev,Av.get,St.put,ai,Nat.reduceEqDiff,↓reduceIte,List.getElem?_cons_zero,List.getElem?_cons_succ,Option.map_some,Ei];refine .seq (.seq (.region [] (by decide) ?_));simp only[al,gdA,ae,aa,ah,an,evalOp,St.ev,Av.get,St.put,ai,↓reduceIte,Option.map_some,Bool.not_true,qK]
 refine .cond (t:=false) rfl (.skip ?_);simp only[ai];refine .seq (.region [] (by decide) ?_);simp only[al,gdA,ae,aa,ah,an,evalOp,St.ev,Av.get,St.put,ai,Nat.reduceEqDiff,↓reduceIte];exact .ret ⟨_,rfl,rfl,_,rfl,rfl⟩
/-! ### A text whose folds are let go -/
def pt:Nat→Bytes→Bytes
 |0,_=>[]
 |_+1,[]=>[]
 |n+1,b::t=>if lk (b::t)=0 then b::pt n t else pt n ((b::t).drop (lk (b::t)))
def unf(s:Bytes):Bytes:=pt s.length s
theorem F5(s:Bytes):lk s≤s.length:=by
 unfold lk;split
 ·split<;>simp
 ·split<;>simp
 ·simp
theorem yF:∀(n:Nat) (s:Bytes),s.length≤n→pt n s=pt s.length s:=by
 intro n;induction n using Nat.strongRecOn with
 | _ n ih=>
  intro s h
  match n,s,h with
  |0,[],_=>rfl
  |n+1,[],_=>rfl
  | n+1,b::t,h=>
   simp only[List.length_cons,pt];have h1:t.length≤n:=by simpa using h
   split
   ·rw[ih n (by omega) t h1]
   ·rename_i hk
    have hd:((b::t).drop (lk (b::t))).length≤t.length:=by simp;omega
    rw[ih n (by omega) _ (by omega)];rcases Nat.lt_or_ge t.length n with h2|h2
    ·rw[ih t.length (by omega) _ hd]
    ·have:t.length=n:=by omega
     rw[this,ih n (by omega) _ (by omega)]
theorem kR:unf []=[]:=rfl
theorem lU(b:UInt8)(t:Bytes)(h:lk (b::t)=0):unf (b::t)=b::unf t:=by
 show pt (t.length+1) (b::t)=_;simp only[pt,h,if_true];rfl
theorem oa(s:Bytes)(h:lk s≠0):unf s=unf (s.drop (lk s)):=by
 match s,h with
 |b::t,h=>
  show pt (t.length+1) (b::t)=_;simp only[pt,h,if_false];exact yF _ _ (by simp;omega)
theorem Ej:∀(n:Nat) (s:Bytes),s.length≤n→(unf s).length≤s.length:=by
 intro n;induction n with
 |zero=>intro s h;match s,h with| [],_=>simp[kR]
 | succ n ih=>
  intro s h
  match s,h with
  | [],_=>simp[kR]
  | b::t,h=>
   by_cases hk:lk (b::t)=0
   ·rw[lU b t hk]
    have:=ih t (by simpa using h);simpa using this
   ·rw[oa _ hk]
    have:=ih ((b::t).drop (lk (b::t))) (by simp at h ⊢;omega);simp at this ⊢;omega
theorem ib(s:Bytes):(unf s).length≤s.length:=Ej _ s (Nat.le_refl _)
structure wrI (s:Bytes) (i last:Nat) (out:Bytes):Prop where
 li:last≤i
 ln:last≤s.length
 le:i≤s.length+1
 eq:out++((s.drop last).take (i - last)++unf (s.drop i))=unf s
theorem wrI.len{s:Bytes}{i last:Nat}{out:Bytes}(h:wrI s i last out)(hi:i≤s.length):out.length+(i - last)≤s.length:=by
 have h1:=ib s;rw[←h.eq]at h1;have:=h.li;simp at h1;omega
theorem wrI.next{s:Bytes}{i last:Nat}{out:Bytes}(h:wrI s i last out)(hi:i≤s.length)(hk:lk (s.drop i)=0):wrI s (i+1) last out:=by
 have hli:=h.li;refine⟨by omega,h.ln,by omega,?_⟩;rw[←h.eq];congr 1;rcases Nat.lt_or_ge i s.length with h1|h1
 ·have hd:s.drop i=s[i]::s.drop (i+1):=by rw[List.drop_eq_getElem_cons h1]
  rw[hd]at hk;rw[hd,lU _ _ hk,show i+1 - last=(i - last)+1 by omega,List.take_add_one];have hg:(s.drop last)[i - last]? =some s[i]:=by rw[List.getElem?_drop,show last+(i - last)=i by omega];exact List.getElem?_eq_getElem h1
  rw[hg];simp
 ·have:i=s.length:=by omega
  subst this;have e1:s.drop s.length=[]:=List.drop_eq_nil_of_le (Nat.le_refl _);have e2:s.drop (s.length+1)=[]:=List.drop_eq_nil_of_le (by omega);rw[e1,e2,kR];simp only[List.append_nil];rw[List.take_of_length_le (by simp;omega),List.take_of_length_le (by simp)]
theorem wrI.cut{s:Bytes}{i last:Nat}{out:Bytes}(h:wrI s i last out)(hi:i≤s.length)(hk:lk (s.drop i)≠0):wrI s (i+lk (s.drop i)) (i+lk (s.drop i)) (out++(s.drop last).take (i - last)):=by
 have hl:=F5 (s.drop i);simp at hl;refine⟨Nat.le_refl _,by omega,by omega,?_⟩;rw[Nat.sub_self,List.take_zero,List.nil_append,←h.eq,List.append_assoc];congr 2;rw[oa _ hk,List.drop_drop]
theorem wrI.last{s:Bytes}{last:Nat}{out:Bytes}(h:wrI s (s.length+1) last out):out++s.drop last=unf s:=by
 have:=h.eq;have e2:s.drop (s.length+1)=[]:=List.drop_eq_nil_of_le (by omega);rw[e2,kR,List.append_nil,List.take_of_length_le (by simp;omega)]at this;exact this
theorem wrI.start(s:Bytes):wrI s 0 0 []:=⟨Nat.le_refl _,Nat.zero_le _,by omega,by simp⟩
def wsC(s:Bytes)(i last:Nat)(out:Bytes):List (Nat×AV):=
 [(0,tree),(2,.str s),(8,.iface 306 (.ptr 1 0)),(9,.int .i64 (last:Int)),(6,.int .i64 (out.length:Int)),(7,.nilif),(11,.bool false),(12,.int .i64 (i:Int))]
theorem xd:gD Tryz.prog 306 "WriteString" =some 285:=by kernel_rfl
theorem ixS(s:Bytes)(i:Nat)(b:UInt8)(h:s[i]? =some b):cf Tryz.prog 9 (.str s) (.int .i64 (i:Int))=some (aS b):=wA Tryz.underlying9 .i64 (i:Int) ⟨by omega,by simpa using h⟩
theorem JW(b:UInt8)(H:List OB):ak Tryz.prog 230 (.vptr (bE m2)) (aS b) H=some (.vptr ((bE m2).drop b.toNat)):=by
 have:=b.toNat_lt;simp[aS,ak,bt,Tryz.underlying230,tz5,this]
theorem JX(b:UInt8)(H:List OB):ao Tryz.prog 5 (.vptr ((bE m2).drop b.toNat)) H=some (.int .u8 ((m2 b.toNat:Nat):Int)):=by
 have:=gO m2 b.toNat b.toNat_lt;simp[ao,tz5,tg5,ldA,this]
theorem Mg(l:List AV):bM Tryz.prog .eql 256 (.vptr l) .nilptr=some (.bool false):=by simp[bM,Tryz.underlying256]
theorem Mh:bM Tryz.prog .eql 256 .nilptr .nilptr=some (.bool true):=by simp[bM,Tryz.underlying256]
theorem JY(j:Nat)(nd:AV)(H:List OB)(h:([.nilptr,n9,n4,.nilptr]:List AV)[j]? =some nd)(ho:nd.cells=[nd]):ak Tryz.prog 257 (.vsl 0 false [.nilptr,n9,n4,.nilptr]) (.int .i64 (j:Int)) H=some (.vptr [nd]):=by
 have:=lO (P:=Tryz.prog) (t:=257) Tryz.underlying257 Al 0 false [.nilptr,n9,n4,.nilptr] .i64 (j:Int) H (v:=nd) ⟨by omega,by simpa using h⟩ (by rw[ho];rfl);rw[ho]at this;exact this
theorem nb1(t:TypeId)(o:BinOp):aH Tryz.prog o t .nilif .nilif=none:=by cases o<;>rfl
theorem nb2(t:TypeId)(o:BinOp):bM Tryz.prog o t .nilif .nilif=none:=by cases o<;>simp[bM]
theorem JZ:dB Tryz.prog .neq 137 .nilif (.const .nilIface)=some (.bool false):=by simp[dB,bC,Tryz.underlying137]
def A6:AV:=.vptr (.int .i64 4::bE m2)
def A7:AV:=.vptr (tm.drop 1)
def A8:AV:=.vptr (tm.drop 4)
def J0:AV:=.vsl 0 false [.nilptr,n9,n4,.nilptr]
theorem tN:bl tree=some tree:=rfl
theorem tA0:aq Tryz.prog 261 tree 0=some tree:=by rw[tree,rj];rfl
theorem tA1:aq Tryz.prog 261 tree 1=some A6:=by rw[tree,rk];rfl
theorem tA2:aq Tryz.prog 261 tree 2=some (.vptr (bE m2)):=by rw[tree,rl];rfl
theorem tB1:aq Tryz.prog 259 tree 1=some A7:=by rw[tree,ji];rfl
theorem tB4:aq Tryz.prog 259 tree 4=some A8:=by rw[tree,jj];rfl
theorem tL1(H:List OB):ao Tryz.prog 3 A6 H=some (.int .i64 4):=lw3 _ _ H
theorem tL2(H:List OB):ao Tryz.prog 3 A7 H=some (.int .i64 0):=lw3 _ _ H
theorem tL4(H:List OB):ao Tryz.prog 257 A8 H=some J0:=pY _ _ H
theorem tI(j:Nat)(nd:AV)(H:List OB)(h:([.nilptr,n9,n4,.nilptr]:List AV)[j]? =some nd)(ho:nd.cells=[nd]):ak Tryz.prog 257 J0 (.int .i64 (j:Int)) H=some (.vptr [nd]):=JY j nd H h ho
theorem hfT(x:Bytes):AV.hfs [tree,.str x,.bool false]=true:=by kernel_rfl
theorem J1(H:List OB)(x:Bytes)(o:Out):aG H [tree,.str x,.bool false] o=some [tree,.str x,.bool false]:=by unfold aG;rw[if_pos (hfT x)]
theorem Ek(t a b:Nat)(h:a+b<9223372036854775807):aH Tryz.prog .add t (.int .i64 (a:Int)) (.int .i64 (b:Int))=some (.int .i64 ((a+b:Nat):Int)):=by
 rw[dc _ _ (by omega)];simp
theorem J2:nG Tryz.prog (.func (.method "WriteString") [.iface 306 (.ptr 1 0)] [])=some (.func (.method "WriteString") [.iface 306 (.ptr 1 0)] []):=by
  simp[nG,xd]
theorem A9:wu (.method "WriteString")=false:=rfl
set_option maxRecDepth 4000 in
theorem Ba (s:Bytes) (hs:s.length≤1000000):
    aY Tryz.prog 272 [tree,.iface 306 (.ptr 1 0),.str s] (wrH s.length []) (.ret (.tup [.int .i64 ((unf s).length:Int),.nilif])) (wrH s.length (unf s)):=by
  refine aY.ofX Tryz.func272 rfl (ab enters Tryz.func272 rfl) (by simp[Tryz.ntmps272]) ?_;show W Tryz.prog 131 2 none _ _ _;refine .seq (.region [] (by decide) ?_);simp only[al,gdA,ae,aa,ah,an,evalOp,St.ev,St.put,aL,ofV,ai,Nat.reduceAdd,Nat.zero_add];refine .seq (.region [.sh (.ret (.iface 306 (.ptr 1 0))) (wrH s.length [])] (by decide) ?_);simp only[al,gdA,ae,aa,ah,an,evalOp,St.ev,Av.get,St.put,ai,Nat.reduceEqDiff,↓reduceIte,List.map_cons,List.map_nil,List.nil_append,List.append_nil];refine⟨JV _,?_⟩;refine .seq (.region [] (by decide) ?_)
  simp only[al,gdA,ae,aa,ah,an,evalOp,St.ev,St.put,ofV,ai];refine .seq (.region [] (by decide) ?_);simp only[al,gdA,ae,aa,ah,an,evalOp,St.ev,St.put,ofV,ai];refine .seq (.seq (.region [] (by decide) ?_));simp only[al,gdA,ae,aa,ah,an,evalOp,St.ev,St.put,ofV,ai];refine .block (.bc (X:=Nat×Nat×Bytes) (fun x=>wsC s x.1 x.2.1 x.2.2) (fun x=>wrH s.length x.2.2) (fun x=>wrI s x.1 x.2.1 x.2.2) (fun x=>s.length+1 - x.1) (0,0,[]) (wrI.start s) ⟨rfl,rfl,rfl,rfl,rfl,rfl,rfl,rfl,trivial⟩ rfl ?_);rintro⟨i,last,out⟩ hI;have hle:=hI.le;simp only at hI hle ⊢;refine .seq (.seq (.region [] (by decide) ?_))
  simp only[al,deN,gdA,ae,aa,ah,an,evalOp,St.ev,Av.get,St.put,ai,Nat.reduceEqDiff,↓reduceIte,Option.map_some,wsC,ls9,ec];rcases Nat.lt_or_ge s.length i with hi|hi
  · -- the end
    refine .cond (t:=false) (by simp[St.ev,Av.get];omega) (.exit ?_);have hii:i=s.length+1:=by omega
    subst hii;have hfin:=hI.last;have hln:=hI.ln;simp only[ai,↓reduceIte,aO];refine .seq (.seq (.region [] (by decide) ?_));simp only[al,deN,gdA,ae,aa,ah,an,evalOp,St.ev,Av.get,St.put,ai,Nat.reduceEqDiff,↓reduceIte,Option.map_some,ls9,ir];rcases Nat.lt_or_ge last s.length with hl|hl
    · refine .cond (t:=true) (by simp[St.ev,Av.get];omega) ?_
      have hw:=A5 s.length out (s.drop last) (by
        have:=ib s;rw[←hfin]at this;simpa using this) (by omega)
      have hol:out.length+(s.drop last).length≤s.length:=by have:=ib s;rw[←hfin]at this;simpa using this
      refine .seq (W.zY (pre:=[_,_,_,_,_,_,_]) (ow:=_) (post:=[_,_,_,_,_]) (r:=.tup [.int .i64 ((s.drop last).length:Int),.nilif]) (H':=wrH s.length (out++s.drop last)) [] [] mixed (by kernel_rfl) rfl (by kernel_rfl) (by kernel_rfl) (by kernel_rfl) (by kernel_rfl) ?_);have hb:=bn (n:=s.length) .i64 last hln;have ht:(s.drop last).take (s.length - last)=s.drop last:=List.take_of_length_le (by simp)
      simp only[EDf,deN,gdA,ae,aa,evalOp,St.ev,Av.get,St.put,ai,Nat.reduceEqDiff,↓reduceIte,List.map_cons,List.map_nil,List.getElem?_cons_zero,List.getElem?_cons_succ,Option.map_some,Option.map_none,Bool.false_eq_true,true_and,ss9,hb,ht,bl,A9,J2];refine⟨_,_,rfl,⟨_,xd,hw⟩,?_⟩;refine .region [] (by decide) ?_;simp only[al,gdA,ae,aa,ah,an,evalOp,St.ev,Av.get,St.put,ai,Nat.reduceEqDiff,↓reduceIte,Ek 3 out.length (s.drop last).length (by omega)];refine .ret ⟨_,rfl,by rw[hfin],_,rfl,?_⟩;rw[←hfin,List.length_append];rfl
    · refine .cond (t:=false) (by simp[St.ev,Av.get];omega) (.skip ?_)
      have h0:s.drop last=[]:=List.drop_eq_nil_of_le hl;rw[h0,List.append_nil]at hfin;subst hfin;simp only[ai];exact .ret ⟨_,rfl,rfl,_,rfl,rfl⟩
  · refine .cond (t:=true) (by simp[St.ev,Av.get];omega) (.skip ?_)
    simp only[ai];refine .block (.nO True (wsC s i last out) (wrH s.length out) ?_ ?_)
    · rcases Nat.lt_or_ge i s.length with hlt|hge
      · obtain⟨b,hb⟩: ∃b,s[i]? =some b:=⟨_,List.getElem?_eq_getElem hlt⟩
        have hne:((i:Int) !=(s.length:Int))=true:=by simp;omega
        have hdr:s.drop i=b::s.drop (i+1):=by
          rw[List.drop_eq_getElem_cons hlt];rw[List.getElem?_eq_getElem hlt]at hb;cases hb;rfl
        refine .seq (.region [] (by decide) ?_);simp only[al,deN,gdA,ae,aa,ah,an,evalOp,St.ev,Av.get,St.put,ofV,ai,Nat.reduceEqDiff,↓reduceIte,List.getElem?_cons_zero,List.getElem?_cons_succ,List.getElem?_toArray,Option.map_some,Option.bind_some,beq_true,aU,cond_true,true_and,wsC,ls9,ir,hne,tN,tA0,tB1,tL2,dv];refine .cond (t:=true) rfl (.seq (W.Ap [] mixed (by kernel_rfl) (by kernel_rfl) ?_));have hcv:=cv8 (m2 b.toNat) (Nat.lt_of_le_of_lt (A4 b) (by decide)) (wrH s.length out)
        simp only[EDg,gdA,ae,aa,evalOp,St.ev,Av.get,St.put,ai,Nat.reduceEqDiff,↓reduceIte,Option.map_some,true_and,tN,tA2,ixS s i b hb,JW,JX,hcv];refine W.bG ((13,.int .i64 ((m2 b.toNat:Nat):Int))::wsC s i last out) ⟨rfl,rfl,rfl,rfl,rfl,rfl,rfl,rfl,rfl,trivial⟩ ?_;have stop:m2 b.toNat=4∨([.nilptr,n9,n4,.nilptr]:List AV)[m2 b.toNat]? =some .nilptr→lk (s.drop i)=0:=by
          intro h;rw[hdr];refine xc _ _ ?_;rcases fP b with⟨hm,hbb⟩|⟨hm,hbb⟩|⟨hm,hbb⟩|⟨hm,hbb⟩|⟨hm,hbb⟩
          · subst hbb;decide
          · rw[hm]at h;rcases h with h|h<;>cases h
          · rw[hm]at h;rcases h with h|h<;>cases h
          · subst hbb;decide
          · exact⟨hbb.2.1,hbb.2.2.1⟩
        have hj:=A4 b;generalize m2 b.toNat=j at*;rcases Nat.lt_or_ge j 4 with h4|h4
        · have he:((j:Int)==4)=false:=by simp;omega
          have hnd:([.nilptr,n9,n4,.nilptr]:List AV)[j]? =some .nilptr∨ ∃l,([.nilptr,n9,n4,.nilptr]:List AV)[j]? =some (.vptr l):=by
            match j,h4 with
            |0,_=>exact .inl rfl
            |1,_=>exact .inr ⟨_,rfl⟩
            |2,_=>exact .inr ⟨_,rfl⟩
            |3,_=>exact .inl rfl
          rcases hnd with hnd|⟨l,hnd⟩
          · refine .seq (.region [] (by decide) ?_)
            simp only[al,gdA,ae,aa,ah,an,evalOp,St.ev,Av.get,St.put,ofV,ai,Nat.reduceEqDiff,↓reduceIte,List.getElem?_cons_zero,List.getElem?_cons_succ,List.getElem?_toArray,Option.map_some,Option.bind_some,beq_false,Bool.not_false,aU,cond_false,wsC,tN,tA0,tA1,tB4,tL1,tL4,tI j .nilptr (wrH s.length out) hnd rfl,sY,dv,he,Mh,nq4];refine .cond (t:=true) rfl (.seq (.region [] (by decide) ?_));simp only[al,gdA,ae,aa,ah,an,evalOp,St.ev,Av.get,St.put,ofV,ai,Nat.reduceEqDiff,↓reduceIte,AW 3 i (by omega)];refine .exit ?_
            exact⟨(i+1,last,out),hI.next hi (stop (.inr hnd)),by omega,⟨rfl,rfl,rfl,rfl,rfl,rfl,rfl,rfl,trivial⟩,rfl,rfl⟩
          · refine .seq (.region [] (by decide) ?_)
            simp only[al,gdA,ae,aa,ah,an,evalOp,St.ev,Av.get,St.put,ofV,ai,Nat.reduceEqDiff,↓reduceIte,List.getElem?_cons_zero,List.getElem?_cons_succ,List.getElem?_toArray,Option.map_some,Option.bind_some,beq_false,Bool.not_false,aU,cond_false,wsC,tN,tA0,tA1,tB4,tL1,tL4,tI j (.vptr l) (wrH s.length out) hnd rfl,sY,dv,he,Mg,nq3];refine .cond (t:=false) rfl (.skip ?_);exact⟨⟨rfl,rfl,rfl,rfl,rfl,rfl,rfl,rfl,trivial⟩,rfl,rfl⟩
        · have hj4:j=4:=by omega
          subst hj4;refine .seq (.region [] (by decide) ?_);have he:(((4:Nat):Int)==4)=true:=rfl;simp only[al,gdA,ae,aa,ah,an,evalOp,St.ev,Av.get,St.put,ofV,ai,Nat.reduceEqDiff,↓reduceIte,List.getElem?_cons_zero,List.getElem?_cons_succ,List.getElem?_toArray,Option.map_some,Option.bind_some,beq_false,Bool.not_true,aU,wsC,tN,tA1,tL1,dv,he];refine .cond (t:=true) rfl (.seq (.region [] (by decide) ?_));simp only[al,gdA,ae,aa,ah,an,evalOp,St.ev,Av.get,St.put,ofV,ai,Nat.reduceEqDiff,↓reduceIte,AW 3 i (by omega)];refine .exit ?_
          exact⟨(i+1,last,out),hI.next hi (stop (.inl rfl)),by omega,⟨rfl,rfl,rfl,rfl,rfl,rfl,rfl,rfl,trivial⟩,rfl,rfl⟩
      · have hii:i=s.length:=by omega
        have hne:((i:Int) !=(s.length:Int))=false:=by simp;omega
        refine .seq (.region [] (by decide) ?_);simp only[al,deN,gdA,ae,aa,ah,an,evalOp,St.ev,Av.get,St.put,ofV,ai,Nat.reduceEqDiff,↓reduceIte,List.getElem?_cons_zero,List.getElem?_cons_succ,List.getElem?_toArray,Option.map_some,Option.bind_some,beq_true,Bool.false_eq_true,aU,true_and,wsC,ls9,ir,hne];refine .cond (t:=false) rfl (.skip ?_);exact⟨⟨rfl,rfl,rfl,rfl,rfl,rfl,rfl,rfl,trivial⟩,rfl,rfl⟩
    · intro _
      have hbf:=bn (n:=s.length) .i64 i hi;have htk:(s.drop i).take (s.length - i)=s.drop i:=List.take_of_length_le (by simp);refine .seq (.region [.pure (.ret (.tup [.str [],.int .i64 (lk (s.drop i):Int),.bool (decide (lk (s.drop i)≠0))]))] (by decide) ?_);simp only[al,deN,gdA,ae,aa,ah,an,evalOp,St.ev,Av.get,St.put,ai,Nat.reduceEqDiff,↓reduceIte,List.map_cons,List.map_nil,List.nil_append,List.append_nil,List.getElem?_cons_zero,List.getElem?_cons_succ,Option.map_some,Option.map_none,wsC,ss9,hbf,htk,J1];refine⟨yE _,?_⟩
      refine W.bG ((14,.str [])::(15,.int .i64 (lk (s.drop i):Int))::(16,.bool (decide (lk (s.drop i)≠0)))::wsC s i last out) ⟨rfl,rfl,rfl,rfl,rfl,rfl,rfl,rfl,rfl,rfl,rfl,trivial⟩ ?_;have hlk:=F5 (s.drop i);rw[List.length_drop]at hlk;have hnx:=hI.next hi;have hct:=hI.cut hi;have hlen:=hI.len hi;generalize lk (s.drop i)=k at*;by_cases hk:k=0
      · subst hk
        have hf:decide ((0:Nat)≠0)=false:=rfl;rw[hf];refine .seq (.region [] (by decide) ?_);simp only[al,gdA,ae,aa,ah,an,evalOp,St.ev,Av.get,St.put,ofV,ai,Nat.reduceEqDiff,↓reduceIte,List.getElem?_cons_zero,List.getElem?_cons_succ,List.getElem?_toArray,Option.bind_some,beq_true,Bool.false_eq_true,aU,wsC];refine .seq (.seq (.region [] (by decide) ?_));simp only[al,gdA,ae,aa,ah,an,evalOp,St.ev,Av.get,St.put,ai,Nat.reduceEqDiff,↓reduceIte];refine .cond (t:=false) rfl (.skip ?_);simp only[ai];refine .region [] (by decide) ?_
        simp only[al,gdA,ae,aa,ah,an,evalOp,St.ev,Av.get,St.put,ofV,ai,Nat.reduceEqDiff,↓reduceIte,and_true,aO,AW 3 i (by omega)];exact⟨(i+1,last,out),hnx rfl,by omega,⟨rfl,rfl,rfl,rfl,rfl,rfl,rfl,rfl,trivial⟩,rfl⟩
      · have hf:decide (k≠0)=true:=decide_eq_true hk
        have he:((k:Int)==0)=false:=by simpa using hk
        rw[hf];obtain⟨t,ht⟩: ∃t,t=(s.drop last).take (i - last):=⟨_,rfl⟩
        have htl:t.length=i - last:=by rw[ht];simp;omega
        have hli:=hI.li;have hw:=A5 s.length out t (by omega) (by omega);have hw2:=A5 s.length (out++t) [] (by simp;omega) (by omega);rw[List.append_nil]at hw2;have hbb:=en (n:=s.length) .i64 .i64 last i hli hi;have hcut:=hct hk;rw[←ht]at hcut;refine .seq (.region [] (by decide) ?_);simp only[al,gdA,ae,aa,ah,an,evalOp,St.ev,Av.get,St.put,ofV,ai,Nat.reduceEqDiff,↓reduceIte,List.getElem?_cons_zero,List.getElem?_cons_succ,List.getElem?_toArray,Option.bind_some,beq_true,aU,cond_true,wsC,dv,he];refine .seq (.seq (.region [] (by decide) ?_))
        simp only[al,gdA,ae,aa,ah,an,evalOp,St.ev,Av.get,St.put,ai,Nat.reduceEqDiff,↓reduceIte];refine .cond (t:=true) rfl (.seq (W.zY (pre:=[_,_,_,_,_,_,_,_]) (ow:=_) (post:=[_,_,_,_,_]) (r:=.tup [.int .i64 (t.length:Int),.nilif]) (H':=wrH s.length (out++t)) [] [] mixed (by kernel_rfl) rfl (by kernel_rfl) (by kernel_rfl) (by kernel_rfl) (by kernel_rfl) ?_))
        simp only[EDf,deN,gdA,ae,aa,evalOp,St.ev,Av.get,St.put,ai,Nat.reduceEqDiff,↓reduceIte,List.map_cons,List.map_nil,List.getElem?_cons_zero,List.getElem?_cons_succ,Option.map_some,Option.map_none,Bool.false_eq_true,true_and,ss9,hbb,←ht,bl,A9,J2];refine⟨_,_,rfl,⟨_,xd,hw⟩,?_⟩;refine W.bG [(0,tree),(2,.str s),(8,.iface 306 (.ptr 1 0)),(6,.int .i64 (out.length:Int)),(7,.nilif),(10,.int .i64 (t.length:Int)),(11,.bool false),(12,.int .i64 (i:Int)),(14,.str []),(15,.int .i64 (k:Int))] ⟨rfl,rfl,rfl,rfl,rfl,rfl,rfl,rfl,rfl,rfl,trivial⟩ ?_;refine .seq (.region [] (by decide) ?_)
        simp only[al,gdA,ae,aa,ah,an,evalOp,St.ev,Av.get,St.put,ai,Nat.reduceEqDiff,↓reduceIte,Ek 3 out.length t.length (by omega)];refine .seq (.seq (.region [] (by decide) ?_));simp only[al,gdA,ae,aa,ah,an,evalOp,St.ev,Av.get,St.put,ofV,ai,Nat.reduceEqDiff,↓reduceIte,Option.map_some,nb1,nb2,JZ];refine .cond (t:=false) rfl (.skip ?_);simp only[ai];refine .seq (.region [.sh (.ret (.tup [.int .i64 (([]:Bytes).length:Int),.nilif])) (wrH s.length (out++t))] (by decide) ?_)
        simp only[al,gdA,ae,aa,ah,an,evalOp,St.ev,Av.get,St.put,ai,Nat.reduceEqDiff,↓reduceIte,List.map_cons,List.map_nil,List.getElem?_cons_zero,List.getElem?_cons_succ,Option.map_some,List.length_nil];refine⟨⟨_,xd,hw2⟩,?_⟩;refine .seq (.region [] (by decide) ?_);simp only[al,gdA,ae,aa,ah,an,evalOp,St.ev,Av.get,St.put,ai,Nat.reduceEqDiff,↓reduceIte,Nat.add_zero,Ek 3 (out.length+t.length) 0 (by omega)];refine .seq (.seq (.region [] (by decide) ?_));simp only[al,gdA,ae,aa,ah,an,evalOp,St.ev,Av.get,St.put,ofV,ai,Nat.reduceEqDiff,↓reduceIte,Option.map_some,nb1,nb2,JZ]
        refine .cond (t:=false) rfl (.skip ?_);simp only[ai];refine .seq (.region [] (by decide) ?_);simp only[al,gdA,ae,aa,ah,an,evalOp,St.ev,Av.get,St.put,ai,Nat.reduceEqDiff,↓reduceIte,Ek 3 i k (by omega)];refine .seq (.region [] (by decide) ?_);simp only[al,gdA,ae,aa,ah,an,evalOp,St.ev,Av.get,St.put,ai,↓reduceIte];refine .exit ?_;refine⟨(i+k,i+k,out++t),hcut,by simp only;omega,⟨rfl,rfl,rfl,rfl,?_,rfl,rfl,rfl,trivial⟩,rfl,rfl⟩;simp[Av.get]
theorem vu(s:Bytes)(hs:s.length≤1000000):ad Tryz.prog 271 [tree,.str s] (.ret (.str (unf s))):=by
 refine ad.of Tryz.func271 rfl (ab enters Tryz.func271 rfl) (by simp[Tryz.ntmps271]) ?_;show W Tryz.prog 15 0 none _ _ _;have hz8:bS Tryz.prog 5=some (.int .u8 0):=by kernel_rfl
 have hza:bS Tryz.prog 305=some (.vsl 0 true []):=by kernel_rfl
 have hmk:cX Tryz.prog 305 (.int .i64 0) (.int .i64 (s.length:Int)) []=some (.sl 0 0 0 0,[.cells (cr s.length) false]):=by
  have hi:idx (.int .i64 0)=some 0:=rfl;have hr:rep s.length (AV.cells (.int .u8 0))=cr s.length:=by simp[rep,cr,AV.cells,List.flatten_replicate_singleton]
  simp only[cX,Tryz.underlying305,hi,bt,FO,hz8,List.length_nil,List.nil_append,hr];rw[if_pos (by omega)]
 have hl:∀v,ao Tryz.prog 305 (.ptr 1 0) [.cells (av (unf s)++cr (s.length - (unf s).length)) false,.cells [v] false]=some v:=by intro v;simp[An,ldC]
 have hcv:bx Tryz.prog 305 9 (.sl 0 0 (unf s).length 0) (wrH s.length (unf s))=some (.str (unf s),wrH s.length (unf s)):=by
  have hbl:(av (unf s)).length=(unf s).length:=by simp[av]
  have ht:(av (unf s)++cr (s.length - (unf s).length)).take (unf s).length=av (unf s):=by rw[List.take_append_of_le_length (by omega),List.take_of_length_le (by omega)]
  simp[bx,Tryz.underlying305,Tryz.underlying9,Tryz.underlying5,wrH,ht,hbl,dY]
 refine .seq (.region [] (by decide) ?_);simp only[al,gdA,ae,aa,ah,an,evalOp,St.ev,St.put,aL,ofV,ai,Nat.zero_add];refine .seq (.region [] (by decide) ?_);have hst:aA Tryz.prog 305 (.ptr 1 0) (.sl 0 0 0 0) [.cells (cr s.length) false,.cells [.vsl 0 true []] false]=some (wrH s.length []):=by
  simp[Am,stC,AV.cells,AV.isC,cz,wrH,av]
 simp only[al,deN,gdA,ae,aa,ah,an,evalOp,St.ev,Av.get,St.put,ofV,ai,Nat.reduceEqDiff,↓reduceIte,List.nil_append,Option.map_some,AV.cells,List.length_cons,List.length_nil,Nat.zero_add,List.cons_append,ls9,hmk,hza,hst];refine .seq (.region [.sh (.ret (.tup [.int .i64 ((unf s).length:Int),.nilif])) (wrH s.length (unf s))] (by decide) ?_);simp only[al,gdA,ae,aa,ah,an,evalOp,St.ev,Av.get,St.put,ai,Nat.reduceEqDiff,↓reduceIte,List.map_cons,List.map_nil,List.nil_append,List.append_nil,Tryz.underlying306];refine⟨Ba s hs,?_⟩;refine .seq (.region [] (by decide) ?_)
 have hl2:ao Tryz.prog 305 (.ptr 1 0) (wrH s.length (unf s))=some (.sl 0 0 (unf s).length 0):=hl _;simp only[al,gdA,ae,aa,ah,an,evalOp,St.ev,Av.get,St.put,ai,Nat.reduceEqDiff,↓reduceIte,Option.map_some,hl2,hcv];exact .ret ⟨_,rfl,_,rfl,.refl _⟩
theorem J3:gD Tryz.prog 228 "Replace" =some 271:=by kernel_rfl
def obS:OB:=.cells [.int .u32 0,.int .i32 0,.int .u32 0,.nilif,.sl 0 0 8 0] false
theorem vw(s:Bytes)(hs:s.length≤1000000):aY Tryz.prog 107 [.ptr 1 0,.str s] [obF,obS] (.ret (.str (unf s))) (obF::obD::rB):=by
 refine aY.ofX Tryz.func107 rfl (ab enters Tryz.func107 rfl) (by simp[Tryz.ntmps107]) ?_;show W Tryz.prog 17 2 none _ _ _;refine .seq (.region [] (by decide) ?_);simp only[al,gdA,ae,aa,ah,an,evalOp,St.ev,St.put,aL,ofV,ai,Nat.zero_add];refine .seq (.region [.sh (.ret (.tup [])) (obF::obD::rB)] (by decide) ?_);simp only[al,gdA,ae,aa,ah,an,evalOp,St.ev,Av.get,St.put,ai,Nat.reduceEqDiff,↓reduceIte,List.map_cons,List.map_nil,List.nil_append,List.append_nil,Option.map_some,Nat.add_zero,bl,ri];refine⟨FU (Nat.zero_le _) Eh,?_⟩;refine .seq (.region [.pure (.ret (.str (unf s)))] (by decide) ?_)
 have hl:ao Tryz.prog 175 (.ptr 1 3) (obF::obD::rB)=some (.iface 228 (.ptr 2 0)):=by kernel_rfl
 simp only[al,gdA,ae,aa,ah,an,evalOp,St.ev,Av.get,St.put,ai,Nat.reduceEqDiff,↓reduceIte,List.map_cons,List.map_nil,Option.map_some,Nat.zero_add,bl,kF,hl,J3,yD];refine⟨vu s hs,?_⟩;exact .ret ⟨_,rfl,rfl,_,rfl,rfl⟩
set_option maxRecDepth 4000 in
theorem ob(s:Bytes)(hs:s.length≤1000000):ad Tryz.prog 85 [.str s] (.ret (.str (unf s))):=by
 refine ad.of Tryz.func85 rfl (ab enters Tryz.func85 rfl) (by simp[Tryz.ntmps85]) ?_;show W Tryz.prog 7 0 none _ _ _;refine .seq (.region [] (by decide) ?_);simp only[al,gdA,ae,aa,ah,an,evalOp,St.ev,St.put,aL,ofV,ai];refine .seq (.region [.sh (.ret (.ptr 1 0)) [obF,obS],.sh (.ret (.str (unf s))) (obF::obD::rB)] (by decide) ?_);have hb:au Tryz.prog 25 8 [(0,.str [13,10,32]),(1,.str []),(2,.str [13,10,9]),(3,.str []),(4,.str [10,32]),(5,.str []),(6,.str [10,9]),(7,.str [])]=some (.vsl 0 true (AR.map .str)):=by kernel_rfl
 have x0:({data:=#[]}:ByteArray).size≤ay:=by decide
 have x1:({data:=#[13,10,32]}:ByteArray).size≤ay:=by decide
 have x2:({data:=#[13,10,9]}:ByteArray).size≤ay:=by decide
 have x3:({data:=#[10,32]}:ByteArray).size≤ay:=by decide
 have x4:({data:=#[10,9]}:ByteArray).size≤ay:=by decide
 simp only[al,gdA,ae,aa,ah,an,evalOp,St.ev,Av.get,St.put,ofV,ai,Nat.reduceEqDiff,↓reduceIte,List.map_cons,List.map_nil,List.nil_append,List.append_nil,Option.map_some,x0,x1,x2,x3,x4,hb];refine⟨A1 true AR rfl (by decide),vw s hs,?_⟩;exact .ret ⟨_,rfl,_,rfl,.refl _⟩
open Go Go.Av Go.RowKit
/-! ### Where a byte stands -/
def ixB(s:Bytes)(c:UInt8):Int:=Lib.indexByte s c
theorem kS:∀(s:Bytes) (c:UInt8),(ixB s c= -1∧c∉s)∨∃i,ixB s c=((i:Nat):Int)∧s[i]? =some c∧c∉s.take i
 | [],c=>.inl ⟨rfl,by simp⟩
 | b::t,c=>by
  have ih:=kS t c;unfold ixB at ih ⊢;unfold Lib.indexByte;by_cases hb:b=c
  ·subst hb;exact .inr ⟨0,by simp,rfl,by simp⟩
  ·rw[if_neg (by simpa using hb)]
   rcases ih with⟨h1,h2⟩|⟨i,h1,h2,h3⟩
   ·rw[h1]
    exact .inl ⟨by simp,by simp[h2,Ne.symm hb]⟩
   ·rw[h1,if_neg (by simp;try omega)]
    refine .inr ⟨i+1,by simp,by simpa using h2,?_⟩;simp[h3,Ne.symm hb]
theorem Bb(s:Bytes)(c:UInt8):ad Tryz.prog 239 [.str s,aS c] (.ret (.int .i64 (ixB s c))):=by
 intro F w Vs hlt hv;cases hv with
 |cons _ _ _ _ h1 h2=>
 cases h2 with
 |cons _ _ _ _ h3 h4=>
 cases h4;cases h1;cases h3;refine .inr ⟨.int .i64 (ixB s c),w,?_,Below.refl _ _,F,fun _ _ h=>h,hlt,fun _ _ _ h=>h,.ret _ _ (.int _ _)⟩;show(callFunc _ #[.string ⟨s.toArray⟩,.int .u8 (c.toNat:Int)]).run _ _=_;rw[run_callFunc_extern Tryz.func239 (by kernel_rfl) (by kernel_rfl) (by kernel_rfl) (e:=Extern.BytealgIndexByte.indexByte) (by kernel_rfl),Lib.run_indexByteString];have:((c.toNat:Int)).toNat.toUInt8=c:=by simp
 rw[this];rfl
theorem tn(s:Bytes)(c:UInt8):ad Tryz.prog 224 [.str s,aS c] (.ret (.int .i64 (ixB s c))):=by
 refine ad.of Tryz.func224 rfl (ab enters Tryz.func224 rfl) (by simp[Tryz.ntmps224]) ?_;show W Tryz.prog 8 0 none _ _ _;refine .seq (.region [] (by decide) ?_);simp only[al,gdA,ae,aa,ah,an,evalOp,St.ev,St.put,aL,ofV,ai,Nat.zero_add];refine .seq (.region [.pure (.ret (.int .i64 (ixB s c)))] (by decide) ?_);simp only[al,gdA,ae,aa,ah,an,evalOp,St.ev,Av.get,St.put,ai,Nat.reduceEqDiff,↓reduceIte,aG,AV.hfs,AV.hf,Bool.and_self,List.map_cons,List.map_nil,List.nil_append,List.append_nil,and_self,aS];exact⟨Bb s c,.ret ⟨_,rfl,_,rfl,.refl _⟩⟩
theorem tp(s:Bytes)(c:UInt8):ad Tryz.prog 208 [.str s,aS c] (.ret (.int .i64 (ixB s c))):=by
 refine ad.of Tryz.func208 rfl (ab enters Tryz.func208 rfl) (by simp[Tryz.ntmps208]) ?_;show W Tryz.prog 8 0 none _ _ _;refine .seq (.region [] (by decide) ?_);simp only[al,gdA,ae,aa,ah,an,evalOp,St.ev,St.put,aL,ofV,ai,Nat.zero_add];refine .seq (.region [.pure (.ret (.int .i64 (ixB s c)))] (by decide) ?_);simp only[al,gdA,ae,aa,ah,an,evalOp,St.ev,Av.get,St.put,ai,Nat.reduceEqDiff,↓reduceIte,aG,AV.hfs,AV.hf,Bool.and_self,List.map_cons,List.map_nil,List.nil_append,List.append_nil,and_self,aS];exact⟨tn s c,.ret ⟨_,rfl,_,rfl,.refl _⟩⟩
theorem Bc(s:Bytes)(c:UInt8):ad Tryz.prog 206 [.str s,.str [c]] (.ret (.int .i64 (ixB s c))):=by
 have h0:cf Tryz.prog 9 (.str [c]) (.int .i64 0)=some (aS c):=wA Tryz.underlying9 .i64 0 (by simp);have key:∀b:Bool,([c]==s)=b→ad Tryz.prog 206 [.str s,.str [c]] (.ret (.int .i64 (ixB s c))):=by
  intro b hb;refine ad.of Tryz.func206 rfl (ab enters Tryz.func206 rfl) (by simp[Tryz.ntmps206]) ?_;show W Tryz.prog 143 0 none _ _ _;refine .seq (.region [] (by decide) ?_);simp only[al,gdA,ae,aa,ah,an,evalOp,St.ev,St.put,aL,ofV,ai,Nat.zero_add];refine .seq (.region [] (by decide) ?_);simp only[al,deN,gdA,ae,aa,ah,an,evalOp,St.ev,Av.get,St.put,ai,Nat.reduceEqDiff,↓reduceIte,Option.map_some,List.length_cons,List.length_nil,Nat.zero_add,ls9];refine .seq (.block (.seq (.region [] (by decide) ?_)));have he:(((1:Nat):Int)==0)=false:=rfl
  simp only[al,gdA,ae,aa,ah,an,evalOp,St.ev,Av.get,St.put,ofV,ai,Nat.reduceEqDiff,↓reduceIte,List.getElem?_cons_zero,List.getElem?_cons_succ,List.getElem?_toArray,Option.bind_some,beq_false,Bool.not_false,aU,cond_false,dv,nQ,hb,he];cases b with
  |true=>
   refine .cond (t:=true) rfl (.seq (.region [] (by decide) ?_));simp only[al,gdA,ae,aa,ah,an,evalOp,St.ev,St.put,ofV,ai];have hs:s=[c]:=(by simpa using hb:[c]=s).symm;have:ixB s c=0:=by subst hs;simp[ixB,Lib.indexByte]
   rw[this];exact .ret ⟨_,rfl,_,rfl,.refl _⟩
  |false=>
   refine .cond (t:=false) rfl (.seq (.region [] (by decide) ?_));simp only[al,gdA,ae,aa,ah,an,evalOp,St.ev,Av.get,St.put,ofV,ai,Nat.reduceEqDiff,↓reduceIte,dv];refine .cond (t:=true) rfl (.seq (.region [.pure (.ret (.int .i64 (ixB s c)))] (by decide) ?_));simp only[al,gdA,ae,aa,ah,an,evalOp,St.ev,Av.get,St.put,ofV,ai,Nat.reduceEqDiff,↓reduceIte,aG,AV.hfs,AV.hf,Bool.and_self,List.map_cons,List.map_nil,List.nil_append,List.append_nil,Option.map_some,and_self,h0,aS];exact⟨tn s c,.ret ⟨_,rfl,_,rfl,.refl _⟩⟩
 exact key _ rfl
theorem Mi(t a b:Nat)(h:a+b<9223372036854775807):aH Tryz.prog .add t (.int .i64 (a:Int)) (.int .i64 (b:Int))=some (.int .i64 ((a+b:Nat):Int)):=by
 rw[dc _ _ (by omega)];simp
theorem Hw(t a b:Nat)(hb:b≤a)(h:a<9223372036854775807):aH Tryz.prog .sub t (.int .i64 (a:Int)) (.int .i64 (b:Int))=some (.int .i64 ((a - b:Nat):Int)):=by
 rw[wy _ _ (by omega)];congr 2;omega
def ct:Bytes→UInt8→Bytes×Bytes×Bool
 | [],_=>([],[],false)
 |b::t,c=>if b=c then([],t,true)else(b::(ct t c).1,(ct t c).2.1,(ct t c).2.2)
theorem rD:∀(s:Bytes) (c:UInt8),c∉s→ct s c=(s,[],false)
 | [],_,_=>rfl
 |b::t,c,h=>by
  simp only[List.mem_cons,not_or]at h;unfold ct;rw[if_neg (fun e=>h.1 e.symm),rD t c h.2]
theorem rE:∀(s:Bytes) (c:UInt8) (i:Nat),s[i]? =some c→c∉s.take i→ct s c=(s.take i,s.drop (i+1),true)
 | [],c,i,h,_=>by simp at h
 |b::t,c,0,h,_=>by simp at h;unfold ct;rw[if_pos h];rfl
 |b::t,c,i+1,h,h2=>by
  simp only[List.take_succ_cons,List.mem_cons,not_or]at h2;unfold ct;rw[if_neg (fun e=>h2.1 e.symm),rE t c i (by simpa using h) h2.2];rfl
set_option maxRecDepth 4000 in
theorem Hy(s:Bytes)(c:UInt8)(hs:s.length≤1000000):ad Tryz.prog 185 [.str s,.str [c]] (.ret (.tup [.str (ct s c).1,.str (ct s c).2.1,.bool (ct s c).2.2])):=by
 have key:∀b:Bool,decide (ixB s c≥0)=b→ad Tryz.prog 185 [.str s,.str [c]] (.ret (.tup [.str (ct s c).1,.str (ct s c).2.1,.bool (ct s c).2.2])):=by
  intro b hb;refine ad.of Tryz.func185 rfl (ab enters Tryz.func185 rfl) (by simp[Tryz.ntmps185]) ?_;show W Tryz.prog 23 0 none _ _ _;refine .seq (.region [] (by decide) ?_);simp only[al,gdA,ae,aa,ah,an,evalOp,St.ev,St.put,aL,ofV,ai,Nat.zero_add];refine .seq (.seq (.region [.pure (.ret (.int .i64 (ixB s c)))] (by decide) ?_));simp only[al,gdA,ae,aa,ah,an,evalOp,St.ev,Av.get,St.put,ai,Nat.reduceEqDiff,↓reduceIte,aG,AV.hfs,AV.hf,Bool.and_self,List.map_cons,List.map_nil,List.nil_append,List.append_nil,and_self];refine⟨Bc s c,?_⟩;refine .seq (.region [] (by decide) ?_)
  simp only[al,gdA,ae,aa,ah,an,evalOp,St.ev,Av.get,St.put,ofV,ai,↓reduceIte,cB,hb];rcases kS s c with⟨h1,h2⟩|⟨i,h1,h2,h3⟩
  ·have hb':b=false:=by rw[←hb,h1];rfl
   subst hb';refine .cond (t:=false) rfl (.skip ?_);rw[rD s c h2];simp only[ai];refine .seq (.region [] (by decide) ?_);simp only[al,gdA,ae,aa,ah,an,evalOp,St.ev,Av.get,St.put,ofV,ai,Nat.reduceEqDiff,↓reduceIte];exact .ret ⟨_,rfl,_,rfl,.refl _⟩
  ·have hb':b=true:=by rw[←hb,h1];simp
   subst hb';refine .cond (t:=true) rfl ?_;have hi:i<s.length:=(List.getElem?_eq_some_iff.1 h2).1;rw[rE s c i h2 h3,h1];refine .seq (W.Ap [] mixed (by kernel_rfl) (by kernel_rfl) ?_);simp only[EDg,deN,gdA,ae,aa,evalOp,St.ev,Av.get,St.put,ofV,ai,Nat.reduceEqDiff,↓reduceIte,Option.map_some,Option.map_none,List.length_cons,List.length_nil,true_and,Nat.zero_add,List.drop_zero,ls9,ss9,Mi _ i 1 (by omega),gl .i64 i (Nat.le_of_lt hi),bn .i64 (i+1) (by omega:i+1≤s.length),Nat.sub_zero,(List.take_of_length_le (by simp):(s.drop (i+1)).take (s.length - (i+1))=s.drop (i+1))]
   exact .ret ⟨_,rfl,_,rfl,.refl _⟩
 exact key _ rfl
theorem Bd(s:Bytes)(c:UInt8)(hs:s.length≤1000000):ad Tryz.prog 160 [.str s,.str [c]] (.ret (.tup [.str (ct s c).1,.str (ct s c).2.1,.bool (ct s c).2.2])):=by
 refine ad.of Tryz.func160 rfl (ab enters Tryz.func160 rfl) (by simp[Tryz.ntmps160]) ?_;show W Tryz.prog 13 0 none _ _ _;refine .seq (.region [] (by decide) ?_);simp only[al,gdA,ae,aa,ah,an,evalOp,St.ev,St.put,aL,ofV,ai,Nat.zero_add];refine .seq (.region [.pure (.ret (.tup [.str (ct s c).1,.str (ct s c).2.1,.bool (ct s c).2.2]))] (by decide) ?_);simp only[al,gdA,ae,aa,ah,an,evalOp,St.ev,Av.get,St.put,ai,Nat.reduceEqDiff,↓reduceIte,aG,AV.hfs,AV.hf,Bool.and_self,List.map_cons,List.map_nil,List.nil_append,List.append_nil,List.getElem?_cons_zero,List.getElem?_cons_succ,Option.map_some,and_self]
 exact⟨Hy s c hs,.ret ⟨_,rfl,_,rfl,.refl _⟩⟩
def ix(s p:Bytes):Bool:=decide (p.length≤s.length)&&(s.drop (s.length - p.length)==p)
set_option maxRecDepth 4000 in
theorem qg(s p:Bytes)(hs:s.length≤1000000):ad Tryz.prog 125 [.str s,.str p] (.ret (.bool (ix s p))):=by
  have key: ∀b c:Bool,decide ((s.length:Int)≥(p.length:Int))=b→(b=true→p.length≤s.length∧(s.drop (s.length - p.length)==p)=c)→(b&&c)=ix s p→
      ad Tryz.prog 125 [.str s,.str p] (.ret (.bool (ix s p))):=by
    intro b c h1 h2 h3;refine ad.of Tryz.func125 rfl (ab enters Tryz.func125 rfl) (by simp[Tryz.ntmps125]) ?_;show W Tryz.prog 21 0 none _ _ _;refine .seq (.region [] (by decide) ?_);simp only[al,gdA,ae,aa,ah,an,evalOp,St.ev,St.put,aL,ofV,ai];refine .seq (.region [] (by decide) ?_);cases b with
    | true=>
      obtain⟨h4,h5⟩:=h2 rfl;have h6:((s.drop (s.length - p.length)).take (s.length - (s.length - p.length))==p)=c:=by rw[List.take_of_length_le (by simp)];exact h5
      simp only[al,deN,gdA,ae,aa,ah,an,evalOp,St.ev,Av.get,St.put,ofV,ai,Nat.reduceEqDiff,↓reduceIte,List.getElem?_cons_zero,List.getElem?_cons_succ,List.getElem?_toArray,Option.map_some,Option.map_none,Option.bind_some,beq_true,aU,cond_true,Nat.zero_add,ls9,cB,h1,ss9,Hw _ _ _ h4 (by omega),bn .i64 (s.length - p.length) (Nat.sub_le _ _),nQ,h6];exact .ret ⟨_,rfl,_,rfl,by rw[←h3];exact .refl _⟩
    | false=>
      simp only[al,deN,gdA,ae,aa,ah,an,evalOp,St.ev,Av.get,St.put,ofV,ai,Nat.reduceEqDiff,↓reduceIte,List.getElem?_cons_zero,List.getElem?_cons_succ,List.getElem?_toArray,Option.map_some,Option.bind_some,beq_true,Bool.false_eq_true,aU,Nat.zero_add,ls9,cB,h1];exact .ret ⟨_,rfl,_,rfl,by rw[←h3];exact .refl _⟩
  rcases Nat.lt_or_ge s.length p.length with h|h
  · refine key false false (decide_eq_false (by omega)) (fun h=>by cases h) ?_
    unfold ix;rw[decide_eq_false (by omega)];rfl
  · refine key true _ (decide_eq_true (by omega)) (fun _=>⟨h,rfl⟩) ?_
    unfold ix;rw[decide_eq_true h]
theorem Be(s p:Bytes)(hs:s.length≤1000000):ad Tryz.prog 84 [.str s,.str p] (.ret (.bool (ix s p))):=by
 refine ad.of Tryz.func84 rfl (ab enters Tryz.func84 rfl) (by simp[Tryz.ntmps84]) ?_;show W Tryz.prog 8 0 none _ _ _;refine .seq (.region [] (by decide) ?_);simp only[al,gdA,ae,aa,ah,an,evalOp,St.ev,St.put,aL,ofV,ai];refine .seq (.region [.pure (.ret (.bool (ix s p)))] (by decide) ?_);simp only[al,gdA,ae,aa,ah,an,evalOp,St.ev,Av.get,St.put,ai,Nat.reduceEqDiff,↓reduceIte,aG,AV.hfs,AV.hf,Bool.and_self,List.map_cons,List.map_nil,List.nil_append,List.append_nil,and_self,Nat.zero_add];exact⟨qg s p hs,.ret ⟨_,rfl,_,rfl,.refl _⟩⟩
def fQ(s p:Bytes):Bytes:=if ix s p then s.take (s.length - p.length)else s
theorem El{s p:Bytes}(h:ix s p=true):p.length≤s.length:=by unfold ix at h;simp only[Bool.and_eq_true,decide_eq_true_eq]at h;exact h.1
theorem xe{s p:Bytes}(h:cT s p=true):p.length≤s.length:=by unfold cT at h;simp only[Bool.and_eq_true,decide_eq_true_eq]at h;exact h.1
theorem Em(s p:Bytes)(hs:s.length≤1000000):ad Tryz.prog 186 [.str s,.str p] (.ret (.str (fQ s p))):=by
 have key:∀b:Bool,ix s p=b→ad Tryz.prog 186 [.str s,.str p] (.ret (.str (fQ s p))):=by
  intro b hb;have h0:=qg s p hs;unfold fQ;rw[hb]at h0 ⊢;refine ad.of Tryz.func186 rfl (ab enters Tryz.func186 rfl) (by simp[Tryz.ntmps186]) ?_;show W Tryz.prog 16 0 none _ _ _;refine .seq (.region [] (by decide) ?_);simp only[al,gdA,ae,aa,ah,an,evalOp,St.ev,St.put,aL,ofV,ai];refine .seq (.seq (.region [.pure (.ret (.bool b))] (by decide) ?_));simp only[al,gdA,ae,aa,ah,an,evalOp,St.ev,Av.get,St.put,ai,Nat.reduceEqDiff,↓reduceIte,aG,AV.hfs,AV.hf,Bool.and_self,List.map_cons,List.map_nil,List.nil_append,List.append_nil,and_self,Nat.zero_add];refine⟨h0,?_⟩;cases b with
  |true=>
   have hl:=El hb;refine .cond (t:=true) rfl (.seq (.region [] (by decide) ?_));simp only[al,deN,gdA,ae,aa,ah,an,evalOp,St.ev,Av.get,St.put,ai,Nat.reduceEqDiff,↓reduceIte,Option.map_some,Option.map_none,List.drop_zero,ls9,ss9,Hw _ _ _ hl (by omega),gl .i64 (s.length - p.length) (Nat.sub_le _ _),Nat.sub_zero];exact .ret ⟨_,rfl,_,rfl,.refl _⟩
  |false=>
   refine .cond (t:=false) rfl (.skip ?_);simp only[ai,↓reduceIte,Bool.false_eq_true];refine .seq (.region [] (by decide) ?_);simp only[al,gdA,ae,aa,ah,an,evalOp,St.ev,Av.get,St.put,ai,Nat.reduceEqDiff,↓reduceIte];exact .ret ⟨_,rfl,_,rfl,.refl _⟩
 exact key _ rfl
theorem En(s p:Bytes)(hs:s.length≤1000000):ad Tryz.prog 161 [.str s,.str p] (.ret (.str (fQ s p))):=by
 refine ad.of Tryz.func161 rfl (ab enters Tryz.func161 rfl) (by simp[Tryz.ntmps161]) ?_;show W Tryz.prog 8 0 none _ _ _;refine .seq (.region [] (by decide) ?_);simp only[al,gdA,ae,aa,ah,an,evalOp,St.ev,St.put,aL,ofV,ai];refine .seq (.region [.pure (.ret (.str (fQ s p)))] (by decide) ?_);simp only[al,gdA,ae,aa,ah,an,evalOp,St.ev,Av.get,St.put,ai,Nat.reduceEqDiff,↓reduceIte,aG,AV.hfs,AV.hf,Bool.and_self,List.map_cons,List.map_nil,List.nil_append,List.append_nil,and_self,Nat.zero_add];exact⟨Em s p hs,.ret ⟨_,rfl,_,rfl,.refl _⟩⟩
def bN(s p:Bytes):Bytes:=if cT s p then s.drop p.length else s
theorem Eo(s p:Bytes):ad Tryz.prog 188 [.str s,.str p] (.ret (.tup [.str (bN s p),.bool (cT s p)])):=by
 have key:∀b:Bool,cT s p=b→ad Tryz.prog 188 [.str s,.str p] (.ret (.tup [.str (bN s p),.bool (cT s p)])):=by
  intro b hb;have h0:=qf s p;unfold bN;rw[hb]at h0 ⊢;refine ad.of Tryz.func188 rfl (ab enters Tryz.func188 rfl) (by simp[Tryz.ntmps188]) ?_;show W Tryz.prog 15 0 none _ _ _;refine .seq (.region [] (by decide) ?_);simp only[al,gdA,ae,aa,ah,an,evalOp,St.ev,St.put,aL,ofV,ai];refine .seq (.seq (.region [.pure (.ret (.bool b))] (by decide) ?_));cases b with
  |true=>
   simp only[al,gdA,ae,aa,ah,an,evalOp,St.ev,Av.get,St.put,ai,Nat.reduceEqDiff,↓reduceIte,aG,AV.hfs,AV.hf,Bool.and_self,List.map_cons,List.map_nil,List.nil_append,List.append_nil,and_self,Nat.zero_add];refine⟨h0,?_⟩;have hl:=xe hb;refine .cond (t:=false) rfl (.skip ?_);simp only[ai,Bool.not_true];refine .seq (.region [] (by decide) ?_);simp only[al,deN,gdA,ae,aa,ah,an,evalOp,St.ev,Av.get,St.put,ofV,ai,Nat.reduceEqDiff,↓reduceIte,Option.map_some,Option.map_none,ls9,ss9,bn .i64 p.length hl,(List.take_of_length_le (by simp):(s.drop p.length).take (s.length - p.length)=s.drop p.length)]
   exact .ret ⟨_,rfl,_,rfl,.refl _⟩
  |false=>
   simp only[al,gdA,ae,aa,ah,an,evalOp,St.ev,Av.get,St.put,ai,Nat.reduceEqDiff,↓reduceIte,aG,AV.hfs,AV.hf,Bool.and_self,List.map_cons,List.map_nil,List.nil_append,List.append_nil,Bool.false_eq_true,and_self,Nat.zero_add];refine⟨h0,?_⟩;refine .cond (t:=true) rfl (.seq (.region [] (by decide) ?_));simp only[al,gdA,ae,aa,ah,an,evalOp,St.ev,Av.get,St.put,ofV,ai,Nat.reduceEqDiff,↓reduceIte,Bool.not_false];exact .ret ⟨_,rfl,_,rfl,.refl _⟩
 exact key _ rfl
theorem Ep(s p:Bytes):ad Tryz.prog 164 [.str s,.str p] (.ret (.tup [.str (bN s p),.bool (cT s p)])):=by
 refine ad.of Tryz.func164 rfl (ab enters Tryz.func164 rfl) (by simp[Tryz.ntmps164]) ?_;show W Tryz.prog 11 0 none _ _ _;refine .seq (.region [] (by decide) ?_);simp only[al,gdA,ae,aa,ah,an,evalOp,St.ev,St.put,aL,ofV,ai];refine .seq (.region [.pure (.ret (.tup [.str (bN s p),.bool (cT s p)]))] (by decide) ?_);simp only[al,gdA,ae,aa,ah,an,evalOp,St.ev,Av.get,St.put,ai,Nat.reduceEqDiff,↓reduceIte,aG,AV.hfs,AV.hf,Bool.and_self,List.map_cons,List.map_nil,List.nil_append,List.append_nil,List.getElem?_cons_zero,List.getElem?_cons_succ,Option.map_some,and_self,Nat.zero_add]
 exact⟨Eo s p,.ret ⟨_,rfl,_,rfl,.refl _⟩⟩
def qh:Out:=.pan 112 (.agg [])
set_option maxRecDepth 8000 in
theorem Bf(b:Bool):ad Tryz.prog 83 [.bool b] (if b then .ret (.tup [])else qh):=by
 cases b with
 |true=>
  show ad Tryz.prog _ _ (.ret (.tup []));refine ad.of Tryz.func83 rfl (ab enters Tryz.func83 rfl) (by simp[Tryz.ntmps83]) ?_;show W Tryz.prog 6 0 none _ _ _;refine .seq (.region [] (by decide) ?_);simp only[al,gdA,ae,aa,ah,an,evalOp,St.ev,Av.get,St.put,aL,ai,↓reduceIte];refine .cond (t:=false) rfl (.skip ?_);exact⟨_,rfl,_,rfl,.refl _⟩
 |false=>
  show ad Tryz.prog _ _ qh;refine ad.of Tryz.func83 rfl (ab enters Tryz.func83 rfl) (by simp[Tryz.ntmps83]) ?_;show W Tryz.prog 6 0 none _ _ _;refine .seq (.region [] (by decide) ?_);simp only[al,gdA,ae,aa,ah,an,evalOp,St.ev,Av.get,St.put,aL,ai,↓reduceIte];refine .cond (t:=true) rfl (.region [] (by decide) ?_);simp only[al,gdA,ae,aa,ah,an,evalOp,St.ev,Av.get,St.put,ofV,↓reduceIte,List.map_nil,Bool.not_false];exact⟨_,rfl,rfl,_,rfl,.refl _⟩
def low(x:UInt8):UInt8:=if 65≤x∧x≤90 then x+32 else x
def small(s:Bytes):Bytes:=s.map low
theorem cvB(s:Bytes):bx Tryz.prog 9 108 (.str s) []=some (.sl 0 0 s.length 0,[.cells (av s) true]):=by
 simp[bx,Tryz.underlying9,Tryz.underlying108,Tryz.underlying5]
theorem lnB(n:Nat)(H:List OB):aI Tryz.prog 108 (.sl 0 0 n 0) H=some (.int .i64 n):=by
 simp[aI,Tryz.underlying108]
theorem iaB(n i:Nat)(hi:i<n)(H:List OB):ak Tryz.prog 108 (.sl 0 0 n 0) (.int .i64 i) H=some (.ptr 0 i):=by
 simp[ak,bt,Tryz.underlying108,tz5,hi]
theorem ic (s : Bytes) : ad Tryz.prog 69 [.str s] (.ret (.str (small s))):=by
  refine ad.fit fun hfit=> ?_;have hb:s.length≤ay:=hfit (.str s) (by simp);refine ad.of Tryz.func69 rfl (ab enters Tryz.func69 rfl) (by simp[Tryz.ntmps69]) ?_;show W Tryz.prog 30 _ none _ _ _;refine .seq (.region [] (by decide) ?_);simp only[al,gdA,ae,aa,ah,an,evalOp,St.ev,St.put,aL,ofV,ai];refine .seq (.region [] (by decide) ?_);simp only[al,gdA,ae,aa,ah,an,evalOp,St.ev,Av.get,St.put,ai,Nat.reduceEqDiff,↓reduceIte,cvB];refine .seq (.seq (.region [] (by decide) ?_));simp only[al,deN,gdA,ae,aa,ah,an,evalOp,St.ev,Av.get,St.put,ofV,ai,↓reduceIte,Option.map_some,lnB];refine .block ?_
  refine .bc (X:=Nat) (fun i=>[(10,.int .i64 (i:Int)),(9,.int .i64 s.length),(8,.sl 0 0 s.length 0),(3,.sl 0 0 s.length 0)]) (fun i=>[.cells (av (fC low i s)) true]) (fun i=>i≤s.length) (fun i=>s.length - i) 0 (Nat.zero_le _)
    (by simp[aC,Av.get]) rfl ?_
  intro i hi;refine .seq (.region [] (by decide) ?_);simp only[al,gdA,ae,aa,ah,an,evalOp,St.ev,Av.get,St.put,ai,Nat.reduceEqDiff,↓reduceIte,cU];by_cases h:i<s.length
  · have hx : s[i]? = some s[i] :=List.getElem?_eq_getElem h
    obtain⟨x,hxx⟩: ∃x,s[i]=x:=⟨_,rfl⟩
    rw[hxx]at hx;have hcell:(av (fC low i s))[i]? =some (aS x):=nR (by rw[kD];exact hx);have hld:ao Tryz.prog 5 (.ptr 0 i) [.cells (av (fC low i s)) true]=some (aS x):=by
      simp[ao,tz5,tg5,ldA,hcell]
    refine .seq (.cond (t:=true) (by simp[St.ev,Av.get];omega) (.skip ?_));simp only[ai];refine .seq (.block (.seq (.region [] (by decide) ?_)));simp only[al,gdA,ae,aa,ah,an,evalOp,St.ev,Av.get,St.put,ai,Nat.reduceEqDiff,↓reduceIte,Option.map_some,iaB _ _ h,hld];refine .seq (.region [] (by decide) ?_)
    have next : ∀ (T : List (Nat×AV)) (b':Bytes),b'=fC low (i+1) s→aC T [(10,.int .i64 (i:Int)),(9,.int .i64 s.length),(8,.sl 0 0 s.length 0),(3,.sl 0 0 s.length 0)]→ ∀(c:Code) (Q:Ex→St→Prop),
        c=Code.region 7
                            #[{ dst:=some 27,
                                op:=Op.binOp BinOp.add 3 (Operand.tmp 10) (Operand.const (Value.int IntKind.i64 1)) 3,
                                type:=3,pos:= "dn.go:32",after:= #[],guard:=none},
                              { dst:=some 10,op:=Op.move (Operand.tmp 27),type:=3,pos:= "dn.go:32",
                                after:= #[{on:=0,ground:=Ground.data}],guard:=none}]
                            false→
        W Tryz.prog 30 0 none c (ai (fun a'=> ∃y,y≤s.length∧s.length - y<s.length - i∧aC a'.T [(10,.int .i64 (y:Int)),(9,.int .i64 s.length),(8,.sl 0 0 s.length 0),(3,.sl 0 0 s.length 0)]∧a'.H=[.cells (av (fC low y s)) true]∧a'.D=[]) Q) ⟨T,[.cells (av b') true],[]⟩:=by
      rintro T b' rfl ⟨t10,t9,t8,t3,_⟩ c Q rfl;refine .region [] (by decide) ?_;have hadd:aH Tryz.prog .add 3 (.int .i64 (i:Int)) (.int .i64 1)=some (.int .i64 ((i+1:Nat):Int)):=by
        rw[dc _ _ (by simp only[ay]at hb;omega)];simp
      simp only[al,gdA,ae,aa,ah,an,evalOp,St.ev,Av.get,St.put,ofV,ai,↓reduceIte,t10,hadd];refine⟨i+1,by omega,by omega,⟨?_,?_,?_,?_,trivial⟩,rfl,trivial⟩<;>simp[Av.get,t9,t8,t3]
    rcases Nat.lt_or_ge x.toNat 65 with hlo|hlo
    · have h1: ¬((x.toNat:Int)≥65):=by omega
      simp only[al,gdA,ae,aa,ah,an,evalOp,St.ev,Av.get,St.put,ofV,ai,Nat.reduceEqDiff,↓reduceIte,List.getElem?_cons_zero,List.getElem?_cons_succ,List.getElem?_toArray,Option.bind_some,decide_false,beq_true,Bool.false_eq_true,aU,cB,h1,aS];refine .cond (t:=false) rfl (.skip ?_);simp only[ai,aO];refine next _ _ ?_ ?_ _ _ rfl
      · rw[←kE low i s x hx]
        have:low x=x:=by
          unfold low;rw[if_neg];rintro⟨h1,_⟩;have:=UInt8.le_iff_toNat_le.1 h1;simp at this;omega
        rw[this,sU (by rw[kD];exact hx)]
      · simp[aC,Av.get]
    · rcases Nat.lt_or_ge 90 x.toNat with hhi|hhi
      · have h1:((x.toNat:Int)≥65):=by omega
        have h2: ¬((x.toNat:Int)≤90):=by omega
        simp only[al,gdA,ae,aa,ah,an,evalOp,St.ev,Av.get,St.put,ofV,ai,Nat.reduceEqDiff,↓reduceIte,List.getElem?_cons_zero,List.getElem?_cons_succ,List.getElem?_toArray,Option.bind_some,decide_true,decide_false,beq_true,aU,cond_true,cB,ec,h1,h2,aS];refine .cond (t:=false) rfl (.skip ?_);simp only[ai,aO];refine next _ _ ?_ ?_ _ _ rfl
        · rw[←kE low i s x hx]
          have:low x=x:=by
            unfold low;rw[if_neg];rintro⟨_,h1⟩;have:=UInt8.le_iff_toNat_le.1 h1;simp at this;omega
          rw[this,sU (by rw[kD];exact hx)]
        · simp[aC,Av.get]
      · have h1:((x.toNat:Int)≥65):=by omega
        have h2:((x.toNat:Int)≤90):=by omega
        simp only[al,gdA,ae,aa,ah,an,evalOp,St.ev,Av.get,St.put,ofV,ai,Nat.reduceEqDiff,↓reduceIte,List.getElem?_cons_zero,List.getElem?_cons_succ,List.getElem?_toArray,Option.bind_some,decide_true,beq_true,aU,cond_true,cB,ec,h1,h2,aS];refine .cond (t:=true) rfl ?_;refine .region [] (by decide) ?_;have ha:aH Tryz.prog .add 5 (.int .u8 (x.toNat:Int)) (.int .u8 97)=some (.int .u8 ((x.toNat:Int)+97)):=by
          simp[aH,IntKind.wrap,IntKind.bits,IntKind.signed];omega
        have hs:aH Tryz.prog .sub 5 (.int .u8 ((x.toNat:Int)+97)) (.int .u8 65)=some (aS (low x)):=by
          have hl:(low x).toNat=x.toNat+32:=by
            unfold low;rw[if_pos ⟨UInt8.le_iff_toNat_le.2 (by simpa using hlo),UInt8.le_iff_toNat_le.2 (by simpa using hhi)⟩];rw[UInt8.toNat_add];simp;omega
          simp[aH,IntKind.wrap,IntKind.bits,IntKind.signed,aS,hl];omega
        have hst:aA Tryz.prog 5 (.ptr 0 i) (aS (low x)) [.cells (av (fC low i s)) true]=some [.cells (av (fC low (i+1) s)) true]:=by
          have hl:i+1≤(av (fC low i s)).length:=by rw[cK,sS];omega
          have hset:cz (av (fC low i s)) i [aS (low x)]=av (fC low (i+1) s):=by rw[kC,uZ,kE low i s x hx]
          simp[aA,tz5,aS,AV.cells,AV.isC,hl];exact hset
        simp only[al,gdA,ae,aa,ah,an,evalOp,St.ev,Av.get,St.put,ofV,ai,Nat.reduceEqDiff,↓reduceIte,Option.map_some,ha,hs,iaB _ _ h,hst,aO];refine next _ _ rfl ?_ _ _ rfl
        simp[aC,Av.get]
  · have hi':i=s.length:=by omega
    subst hi';refine .seq (.cond (t:=false) (by simp[St.ev,Av.get]) (.exit ?_));simp only[ai,↓reduceIte,aO];refine .seq (.region [] (by decide) ?_);have hcv:bx Tryz.prog 108 9 (.sl 0 0 s.length 0) [.cells (av (fC low s.length s)) true]=some (.str (small s),[.cells (av (fC low s.length s)) true]):=by
      rw[sR low _ _ (Nat.le_refl _)];have hl:(av (s.map low)).length=s.length:=by simp[av]
      simp[bx,Tryz.underlying9,Tryz.underlying108,Tryz.underlying5,hl,List.take_of_length_le,dY,small]
    simp only[al,gdA,ae,aa,ah,an,evalOp,St.ev,Av.get,St.put,ai,Nat.reduceEqDiff,↓reduceIte,hcv];exact .ret ⟨_,rfl,_,rfl,.refl _⟩
theorem within(x lo hi:Int):ad Tryz.prog 193 [.int .u8 x,.int .u8 lo,.int .u8 hi] (.ret (.bool (decide (x≥lo)&&decide (x≤hi)))):=by
 refine ad.of Tryz.func193 rfl (ab enters Tryz.func193 rfl) (by simp[Tryz.ntmps193]) ?_;show W Tryz.prog 15 _ none _ _ _;refine .seq (.region [] (by decide) ?_);simp only[al,gdA,ae,aa,ah,an,evalOp,St.ev,St.put,aL,ofV,ai];refine .seq (.region [] (by decide) ?_);generalize h1:decide (x≥lo)=b1;generalize h2:decide (x≤hi)=b2
 cases b1<;>cases b2<;>simp only[al,gdA,ae,aa,ah,an,evalOp,St.ev,Av.get,St.put,ofV,ai,Nat.reduceEqDiff,↓reduceIte,Bool.and_self,List.getElem?_cons_zero,List.getElem?_cons_succ,List.getElem?_toArray,Option.bind_some,beq_true,Bool.false_eq_true,aU,cond_true,cB,ec,h1,h2]<;>exact .ret ⟨_,rfl,_,rfl,.refl _⟩
theorem letter(x:Int):ad Tryz.prog 166 [.int .u8 x] (.ret (.bool (decide (x≥65)&&decide (x≤90)||decide (x≥97)&&decide (x≤122)))):=by
 refine ad.of Tryz.func166 rfl (ab enters Tryz.func166 rfl) (by simp[Tryz.ntmps166]) ?_;show W Tryz.prog 17 _ none _ _ _;refine .seq (.region [] (by decide) ?_);simp only[al,gdA,ae,aa,ah,an,evalOp,St.ev,St.put,aL,ofV,ai];refine .seq (.region [] (by decide) ?_);generalize h1:decide (x≥65)=b1;generalize h2:decide (x≤90)=b2;generalize h3:decide (x≥97)=b3;generalize h4:decide (x≤122)=b4
 cases b1<;>cases b2<;>cases b3<;>cases b4<;>simp only[al,gdA,ae,aa,ah,an,evalOp,St.ev,Av.get,St.put,ofV,ai,Nat.reduceEqDiff,↓reduceIte,Bool.and_self,List.getElem?_cons_zero,List.getElem?_cons_succ,List.getElem?_toArray,Option.bind_some,beq_false,beq_true,Bool.not_true,Bool.not_false,Bool.false_eq_true,aU,cond_true,cond_false,cB,ec,h1,h2,h3,h4]<;>exact .ret ⟨_,rfl,_,rfl,.refl _⟩
def okI(f:Bool)(x:Int):Bool:=
 !(!(decide (x≥97)&&decide (x≤122))&&(!(decide (x≥65)&&decide (x≤90))&&(f||(!(decide (x≥48)&&decide (x≤57))&&(x !=45)))))
def od:Nat→Bytes→Bool
 |_,[]=>true
 |i,x::l=>okI (i==0) x.toNat&&od (i+1) l
def eh(s:Bytes):Bool:=od 0 s&&(decide ((s.length:Int)≥1)&&decide ((s.length:Int)≤64))
theorem J4(s:Bytes)(i:Nat)(x:UInt8)(hx:s[i]? =some x):ao Tryz.prog 5 (.ptr 0 i) [.cells (av s) true]=some (.int .u8 x.toNat):=by
 have hcell:(av s)[i]? =some (aS x):=nR hx;simp[ao,tz5,tg5,ldA,hcell,aS]
theorem cZ(b:Bool):qK .not (.bool b)=some (.bool !b):=rfl
set_option maxRecDepth 4000 in
theorem J5 (s:Bytes):ad Tryz.prog 168 [.str s] (.ret (.bool (eh s))):=by
 refine ad.fit fun hfit=>?_;have hb:s.length≤ay:=hfit (.str s) (by simp);refine ad.of Tryz.func168 rfl (ab enters Tryz.func168 rfl) (by simp[Tryz.ntmps168]) ?_;show W Tryz.prog 43 _ none _ _ _;refine .seq (.region [] (by decide) ?_);simp only[al,gdA,ae,aa,ah,an,evalOp,St.ev,St.put,aL,ofV,ai];refine .seq (.seq (.region [] (by decide) ?_));simp only[al,deN,gdA,ae,aa,ah,an,evalOp,St.ev,Av.get,St.put,ofV,ai,Nat.reduceEqDiff,↓reduceIte,Option.map_some,cvB,lnB];refine .block ?_
 refine .bc (X:=Nat) (fun i=>[(8,.int .i64 (i:Int)),(7,.int .i64 s.length),(6,.sl 0 0 s.length 0),(0,.str s)]) (fun i=>[.cells (av s) true]) (fun i=>i≤s.length∧od i (s.drop i)=od 0 s) (fun i=>s.length - i) 0 ⟨Nat.zero_le _,rfl⟩
  (by simp[aC,Av.get]) rfl ?_
 rintro i ⟨hi,hall⟩;refine .seq (.region [] (by decide) ?_);simp only[al,gdA,ae,aa,ah,an,evalOp,St.ev,Av.get,St.put,ai,Nat.reduceEqDiff,↓reduceIte,cU];by_cases h:i<s.length
 ·obtain⟨x,hx⟩:∃x,s[i]? =some x:=⟨s[i],List.getElem?_eq_getElem h⟩
  have hdrop:s.drop i=x::s.drop (i+1):=by
   rw[List.drop_eq_getElem_cons h];rw[List.getElem?_eq_getElem h]at hx;cases hx;rfl
  rw[hdrop,od]at hall;refine .seq (.cond (t:=true) (by simp[St.ev,Av.get];omega) (.skip ?_));simp only[ai];refine .nO (okI (i==0) x.toNat=true) [(8,.int .i64 (i:Int)),(7,.int .i64 s.length),(6,.sl 0 0 s.length 0),(0,.str s)] [.cells (av s) true] (x:=Code.block 1 _) ?_ ?_
  ·refine .block (.seq (.region [] (by decide) ?_))
   simp only[al,gdA,ae,aa,ah,an,evalOp,St.ev,Av.get,St.put,ai,Nat.reduceEqDiff,↓reduceIte,Option.map_some,iaB _ _ h,J4 s i x hx];generalize hw1:(decide ((x.toNat:Int)≥97)&&decide ((x.toNat:Int)≤122))=w1;generalize hw2:(decide ((x.toNat:Int)≥65)&&decide ((x.toNat:Int)≤90))=w2;generalize hw3:(decide ((x.toNat:Int)≥48)&&decide ((x.toNat:Int)≤57))=w3;have p1:=within x.toNat 97 122;have p2:=within x.toNat 65 90;have p3:=within x.toNat 48 57;rw[hw1]at p1;rw[hw2]at p2;rw[hw3]at p3;have hok:okI (i==0) x.toNat= !(!w1&&(!w2&&((i==0)||(!w3&&((x.toNat:Int) !=45))))):=by simp only[okI,hw1,hw2,hw3]
   have bad:okI (i==0) x.toNat=false→eh s=false:=by
    intro h;rw[h]at hall;simp[eh,←hall]
   cases w1 with
   |true=>
    refine .seq (.region [.pure (.ret (.bool true))] (by decide) ?_);simp only[al,gdA,ae,aa,ah,an,evalOp,St.ev,Av.get,St.put,ofV,ai,Nat.reduceEqDiff,↓reduceIte,aG,AV.hfs,AV.hf,Bool.and_self,List.map_cons,List.map_nil,List.nil_append,List.append_nil,List.getElem?_cons_zero,List.getElem?_cons_succ,List.getElem?_toArray,Option.map_some,Option.bind_some,beq_true,Bool.not_true,Bool.false_eq_true,aU,cZ];refine⟨p1,?_⟩;refine .cond (t:=false) rfl (.skip ?_);refine⟨by rw[hok];rfl,?_,rfl,rfl⟩;simp[aC,Av.get]
   | false=>
    cases w2 with
    |true=>
     refine .seq (.region [.pure (.ret (.bool false)),.pure (.ret (.bool true))] (by decide) ?_);simp only[al,gdA,ae,aa,ah,an,evalOp,St.ev,Av.get,St.put,ofV,ai,Nat.reduceEqDiff,↓reduceIte,aG,AV.hfs,AV.hf,Bool.and_self,List.map_cons,List.map_nil,List.nil_append,List.append_nil,List.getElem?_cons_zero,List.getElem?_cons_succ,List.getElem?_toArray,Option.map_some,Option.bind_some,beq_true,Bool.not_true,Bool.not_false,Bool.false_eq_true,aU,cond_true,cZ];refine⟨p1,p2,?_⟩;refine .cond (t:=false) rfl (.skip ?_);refine⟨by rw[hok];rfl,?_,rfl,rfl⟩;simp[aC,Av.get]
    | false=>
     by_cases h0:i=0
     ·subst h0
      have hb':eh s=false:=bad (by rw[hok];rfl);have e0:(((0:Nat):Int)==0)=true:=rfl;refine .seq (.region [.pure (.ret (.bool false)),.pure (.ret (.bool false))] (by decide) ?_);simp only[al,gdA,ae,aa,ah,an,evalOp,St.ev,Av.get,St.put,ofV,ai,Nat.reduceEqDiff,↓reduceIte,aG,AV.hfs,AV.hf,Bool.and_self,List.map_cons,List.map_nil,List.nil_append,List.append_nil,List.getElem?_cons_zero,List.getElem?_cons_succ,List.getElem?_toArray,Option.map_some,Option.bind_some,beq_false,beq_true,Bool.not_true,Bool.not_false,aU,cond_true,cZ,dv,e0];refine⟨p1,p2,?_⟩
      refine .cond (t:=true) rfl (.seq (.region [] (by decide) ?_));simp only[al,gdA,ae,aa,ah,an,evalOp,St.ev,St.put,ofV,ai];refine .ret ?_;rw[hb'];exact⟨_,rfl,_,rfl,.refl _⟩
     ·have e0:((i:Int)==0)=false:=by simpa using h0
      have e1:(i==0)=false:=by simpa using h0
      cases w3 with
      |true=>
       rw[e1]at hok;refine .seq (.region [.pure (.ret (.bool false)),.pure (.ret (.bool false)),.pure (.ret (.bool true))] (by decide) ?_);simp only[al,gdA,ae,aa,ah,an,evalOp,St.ev,Av.get,St.put,ofV,ai,Nat.reduceEqDiff,↓reduceIte,aG,AV.hfs,AV.hf,Bool.and_self,List.map_cons,List.map_nil,List.nil_append,List.append_nil,List.getElem?_cons_zero,List.getElem?_cons_succ,List.getElem?_toArray,Option.map_some,Option.bind_some,beq_false,beq_true,Bool.not_true,Bool.not_false,Bool.false_eq_true,aU,cond_true,cond_false,cZ,dv,e0];refine⟨p1,p2,p3,?_⟩;refine .cond (t:=false) rfl (.skip ?_)
       refine⟨by rw[e1,hok];rfl,?_,rfl,rfl⟩;simp[aC,Av.get]
      | false=>
       refine .seq (.region [.pure (.ret (.bool false)),.pure (.ret (.bool false)),.pure (.ret (.bool false))] (by decide) ?_);generalize h45:((x.toNat:Int) !=45)=w4;rw[h45,e1]at hok;cases w4 with
       |true=>
        have hb':eh s=false:=bad (by rw[e1,hok];rfl);simp only[al,gdA,ae,aa,ah,an,evalOp,St.ev,Av.get,St.put,ofV,ai,Nat.reduceEqDiff,↓reduceIte,aG,AV.hfs,AV.hf,Bool.and_self,List.map_cons,List.map_nil,List.nil_append,List.append_nil,List.getElem?_cons_zero,List.getElem?_cons_succ,List.getElem?_toArray,Option.map_some,Option.bind_some,beq_false,beq_true,Bool.not_false,aU,cond_true,cond_false,cZ,dv,ir,e0,h45];refine⟨p1,p2,p3,?_⟩;refine .cond (t:=true) rfl (.seq (.region [] (by decide) ?_));simp only[al,gdA,ae,aa,ah,an,evalOp,St.ev,St.put,ofV,ai];refine .ret ?_;rw[hb']
        exact⟨_,rfl,_,rfl,.refl _⟩
       |false=>
        simp only[al,gdA,ae,aa,ah,an,evalOp,St.ev,Av.get,St.put,ofV,ai,Nat.reduceEqDiff,↓reduceIte,aG,AV.hfs,AV.hf,Bool.and_self,List.map_cons,List.map_nil,List.nil_append,List.append_nil,List.getElem?_cons_zero,List.getElem?_cons_succ,List.getElem?_toArray,Option.map_some,Option.bind_some,beq_false,beq_true,Bool.not_false,aU,cond_true,cond_false,cZ,dv,ir,e0,h45];refine⟨p1,p2,p3,?_⟩;refine .cond (t:=false) rfl (.skip ?_);refine⟨by rw[e1,hok];rfl,?_,rfl,rfl⟩;simp[aC,Av.get]
  ·intro hgood
   rw[hgood,Bool.true_and]at hall;refine .region [] (by decide) ?_;have hadd:aH Tryz.prog .add 3 (.int .i64 (i:Int)) (.int .i64 1)=some (.int .i64 ((i+1:Nat):Int)):=by
    rw[dc _ _ (by simp only[ay]at hb;omega)];simp
   simp only[al,gdA,ae,aa,ah,an,evalOp,St.ev,Av.get,St.put,ofV,ai,↓reduceIte,hadd];refine⟨i+1,⟨by omega,hall⟩,by omega,?_,trivial,trivial⟩;simp[aC,Av.get]
 ·have hi':i=s.length:=by omega
  subst hi';refine .seq (.cond (t:=false) (by simp[St.ev,Av.get]) (.exit ?_));simp only[ai,↓reduceIte,aO];refine .seq (.region [] (by decide) ?_);have ht:od 0 s=true:=by rw[←hall,List.drop_length];rfl
  have hres:eh s=(decide ((s.length:Int)≥1)&&decide ((s.length:Int)≤64)):=by simp[eh,ht]
  rw[hres];generalize h1:decide ((s.length:Int)≥1)=b1;generalize h2:decide ((s.length:Int)≤64)=b2;cases b1<;>cases b2<;>simp only[al,deN,gdA,ae,aa,ah,an,evalOp,St.ev,Av.get,St.put,ofV,ai,Nat.reduceEqDiff,↓reduceIte,Bool.and_self,List.getElem?_cons_zero,List.getElem?_cons_succ,List.getElem?_toArray,Option.map_some,Option.bind_some,beq_true,Bool.false_eq_true,aU,cond_true,cB,ec,h1,h2,ls9]<;>exact .ret ⟨_,rfl,_,rfl,.refl _⟩
theorem drop_at{α:Type}{l:List α}{i:Nat}(h:i<l.length):∃u,l[i]? =some u∧l.drop i=u::l.drop (i+1):=
 ⟨l[i],List.getElem?_eq_getElem h,List.drop_eq_getElem_cons h⟩
theorem dlt(i L:Nat):decide ((i:Int)<(L:Int))=decide (i<L):=by simp
theorem ix9(s:Bytes)(i:Nat)(x:UInt8)(h:s[i]? =some x):cf Tryz.prog 9 (.str s) (.int .i64 (i:Int))=some (.int .u8 x.toNat):=by
 simp[cf,bt,Tryz.underlying9,h]
theorem vx(s:Bytes)(i:Nat)(x:UInt8)(h:s[i]? =some x):(s.take (i+1)).map low=(s.take i).map low++[low x]:=by
 rw[List.take_add_one,h];simp
theorem cvS(x:UInt8)(H:List OB):bx Tryz.prog 108 9 (.vsl 0 true [.int .u8 x.toNat]) H=some (.str [x],H):=by
 have:=dY [x];simp only[av,aS,List.map_cons,List.map_nil]at this;simp[bx,Tryz.underlying108,Tryz.underlying9,Tryz.underlying5,this]
theorem bsB(x:UInt8):au Tryz.prog 108 1 [(0,.int .u8 x.toNat)]=some (.vsl 0 true [.int .u8 x.toNat]):=by
 have h:apT Tryz.prog 5=some (1,0,1):=by kernel_rfl
 simp[au,Tryz.underlying108,h,AV.cells,AV.told,List.range']
set_option maxRecDepth 100000 in
theorem oe(s:Bytes):ad Tryz.prog 39 [.str s] (.ret (.str (small s))):=by
 refine ad.fit fun hfit=>?_;have hL:s.length≤ay:=hfit (.str s) (by simp);refine ad.of Tryz.func39 rfl (ab enters Tryz.func39 rfl) (by simp[Tryz.ntmps39]) ?_;show W Tryz.prog 29 _ none _ _ _;have x0:({data:=#[]}:ByteArray).size≤ay:=by decide
 refine .seq (.region [] (by decide) ?_);simp only[al,gdA,ae,aa,ah,an,evalOp,St.ev,St.put,aL,ofV,ai,↓reduceIte,x0];refine .seq (.region [] (by decide) ?_);simp only[al,gdA,ae,aa,ah,an,evalOp,St.ev,St.put,ofV,ai,↓reduceIte,x0];refine .seq (.seq (.region [] (by decide) ?_));simp only[al,gdA,ae,aa,ah,an,evalOp,St.ev,St.put,ofV,ai];refine .block ?_
 refine .G5 4 9 10 11 0 s.length hL (Nat.zero_le _) rfl rfl rfl rfl rfl rfl rfl rfl rfl (by decide)
  (fun i=>[(3,.str ((s.take i).map low)),(0,.str s)]) (fun _=>rfl) (fun _=>[]) (fun _=>Nat.zero_le _) (fun i=>True) rfl trivial ?_ ?_ trivial ?_ ?_ ?_
 ·simp only[List.take_zero,List.map_nil]
  simp only[bz,Av.get,Nat.reduceEqDiff,↓reduceIte,bg,dk,dm,and_self]
 ·intro i _
  simp only[cm,AV.hlt,AV.bf,bH,Bool.and_self,Bool.and_true,Bool.true_and]
 ·intro i hi hok
  refine .region [] (by decide) ?_;simp only[al,deN,gdA,ae,aa,ah,an,evalOp,St.ev,Av.get,St.put,ai,Nat.reduceEqDiff,↓reduceIte,Option.map_some,ls9,cU,dlt];refine⟨trivial,?_,trivial,trivial⟩;simp only[bz,Av.get,Nat.reduceEqDiff,↓reduceIte,bg,dk,dm,and_self]
 ·intro i hi hok
  obtain⟨u,hu,hdrop⟩:=drop_at hi;have htl:((s.take i).map low).length=i:=by rw[List.length_map,List.length_take];omega
  have hadd:aH Tryz.prog .add 9 (.str ((s.take i).map low)) (.str [low u])=some (.str ((s.take (i+1)).map low)):=by
   rw[vx s i u hu];simp only[aH,htl,List.length_singleton];rw[if_pos (by omega)]
  refine .block (.seq (.region [] (by decide) ?_));simp only[al,gdA,ae,aa,ah,an,evalOp,St.ev,Av.get,St.put,ai,Nat.reduceEqDiff,↓reduceIte,Option.map_some,ix9 _ _ _ hu];refine .gX [(5,.int .u8 (low u).toNat),(4,.int .i64 (i:Int)),(3,.str ((s.take i).map low)),(0,.str s)] [] ?_ ?_
  ·refine .seq (.region [] (by decide) ?_)
   generalize h1:decide ((u.toNat:Int)≥65)=b1;generalize h2:decide ((u.toNat:Int)≤90)=b2;have hlow:(low u).toNat=if(b1&&b2)=true then u.toNat+32 else u.toNat:=by
    have e1:b1=decide (65≤u):=by rw[←h1];simp[UInt8.le_iff_toNat_le];omega
    have e2:b2=decide (u≤90):=by rw[←h2];simp[UInt8.le_iff_toNat_le];omega
    unfold low;rw[e1,e2];simp only[Bool.and_eq_true,decide_eq_true_eq];split
    ·rename_i hc
     have:=UInt8.le_iff_toNat_le.1 hc.2;rw[UInt8.toNat_add];simp at this ⊢;omega
    ·rfl
   have hb:(u.toNat:Int)<256:=by have:=u.toNat_lt;omega
   cases b1<;>cases b2<;>simp only[al,gdA,ae,aa,ah,an,evalOp,St.ev,Av.get,St.put,ofV,ai,Nat.reduceEqDiff,↓reduceIte,List.getElem?_cons_zero,List.getElem?_cons_succ,List.getElem?_toArray,Option.bind_some,beq_true,Bool.false_eq_true,aU,cond_true,cB,ec,h1,h2]
   case true.true=>
    refine .cond (t:=true) rfl (.region [] (by decide) ?_);have h90:(u.toNat:Int)≤90:=of_decide_eq_true h2;have ha:aH Tryz.prog .add 5 (.int .u8 (u.toNat:Int)) (.int .u8 32)=some (.int .u8 ((low u).toNat:Int)):=by
     rw[hlow];simp[aH,IntKind.wrap,IntKind.bits,IntKind.signed];omega
    simp only[al,gdA,ae,aa,ah,an,evalOp,St.ev,Av.get,St.put,ofV,ai,Nat.reduceEqDiff,↓reduceIte,ha];refine⟨?_,trivial,trivial⟩;simp[aC,Av.get]
   all_goals
    refine .cond (t:=false) rfl (.skip ?_);refine⟨?_,rfl,rfl⟩;rw[hlow];simp[aC,Av.get]
  ·refine .region [] (by decide) ?_
   simp only[al,gdA,ae,aa,ah,an,evalOp,St.ev,Av.get,St.put,ofV,Nat.reduceEqDiff,↓reduceIte,List.map_cons,List.map_nil,Option.map_some,bsB,cvS,hadd];refine⟨trivial,?_,trivial,rfl⟩;simp only[bz,Av.get,Nat.reduceEqDiff,↓reduceIte,bg,dk,dm,and_self]
 ·intro hok
  simp only[ai,↓reduceIte,aO];refine .seq (.region [] (by decide) ?_);simp only[al,gdA,ae,aa,ah,an,evalOp,St.ev,Av.get,St.put,ai,Nat.reduceEqDiff,↓reduceIte];have:small s=(s.take s.length).map low:=by rw[List.take_length];rfl
  rw[this];exact .ret ⟨_,rfl,_,rfl,.refl _⟩
def gP(x:Int):Bool:=decide (x≥65)&&decide (x≤90)||decide (x≥97)&&decide (x≤122)
def mR(x:Int):Bool:=!((!gP x)&&((decide (x<48)||decide (x>57))&&(x !=45)))
def mB(s:Bytes):Bool:=match s with
 | []=>false
 |x::_=>!decide ((s.length:Int)>64)&&(gP x.toNat&&s.all fun y=>mR y.toNat)
set_option maxRecDepth 4000 in
theorem Er (s:Bytes):ad Tryz.prog 130 [.str s] (.ret (.bool (mB s))):=by
  refine ad.fit fun hfit=> ?_;have hL:s.length≤ay:=hfit (.str s) (by simp);refine ad.of Tryz.func130 rfl (ab enters Tryz.func130 rfl) (by simp[Tryz.ntmps130]) ?_;show W Tryz.prog 47 _ none _ _ _;refine .seq (.region [] (by decide) ?_);simp only[al,gdA,ae,aa,ah,an,evalOp,St.ev,St.put,aL,ofV,ai];refine .nO (mB s=s.all fun y=>mR y.toNat) [(0,.str s)] [] ?_ ?_
  · cases hs:s with
    | nil=>
      have h0:decide (((([]:Bytes).length:Nat):Int)<1)=true:=by decide
      refine .seq (.region [] (by decide) ?_);simp only[al,deN,gdA,ae,aa,ah,an,evalOp,St.ev,Av.get,St.put,ofV,ai,Nat.reduceEqDiff,↓reduceIte,List.map_cons,List.map_nil,List.nil_append,List.append_nil,List.getElem?_cons_zero,List.getElem?_cons_succ,List.getElem?_toArray,Option.map_some,Option.bind_some,beq_false,aU,List.length_nil,List.all_nil,ls9,cU,h0];refine .cond (t:=true) rfl (.seq (.region [] (by decide) ?_));simp only[al,gdA,ae,aa,ah,an,evalOp,St.ev,St.put,ofV,ai,↓reduceIte];exact .ret ⟨_,rfl,_,rfl,.refl _⟩
    | cons x t=>
      rw[←hs];have hx:s[0]? =some x:=by rw[hs];rfl
      have hn:mB s=(!decide ((s.length:Int)>64)&&(gP x.toNat&&s.all fun y=>mR y.toNat)):=by rw[hs];rfl
      have h1:decide ((s.length:Int)<1)=false:=decide_eq_false (by rw[hs];simp;omega);have hx0:cf Tryz.prog 9 (.str s) (.int .i64 0)=some (.int .u8 x.toNat):=ix9 s 0 x hx;have hlet:ad Tryz.prog 166 [.int .u8 x.toNat] (.ret (.bool (gP x.toNat))):=letter _;generalize hc:decide ((s.length:Int)>64)=c at hn;generalize hd:gP x.toNat=d at hn hlet;cases c with
      | true=>
        refine .seq (.region [] (by decide) ?_);simp only[al,deN,gdA,ae,aa,ah,an,evalOp,St.ev,Av.get,St.put,ofV,ai,Nat.reduceEqDiff,↓reduceIte,List.getElem?_cons_zero,List.getElem?_cons_succ,List.getElem?_toArray,Option.map_some,Option.bind_some,beq_false,Bool.not_true,Bool.not_false,aU,cond_false,ls9,cU,iq,h1,hc];refine .cond (t:=true) rfl (.seq (.region [] (by decide) ?_));simp only[al,gdA,ae,aa,ah,an,evalOp,St.ev,St.put,ofV,ai];refine .ret ?_;rw[hn];exact⟨_,rfl,_,rfl,.refl _⟩
      | false=>
        refine .seq (.region [.pure (.ret (.bool d))] (by decide) ?_);cases d with
        | true=>
          simp only[al,deN,gdA,ae,aa,ah,an,evalOp,St.ev,Av.get,St.put,ofV,ai,Nat.reduceEqDiff,↓reduceIte,aG,AV.hfs,AV.hf,Bool.and_self,List.map_cons,List.map_nil,List.nil_append,List.append_nil,List.getElem?_cons_zero,List.getElem?_cons_succ,List.getElem?_toArray,Option.map_some,Option.bind_some,beq_false,Bool.not_false,Bool.false_eq_true,aU,cond_false,and_self,ls9,cU,iq,h1,hc,hx0];refine⟨hlet,?_⟩;refine .cond (t:=false) rfl (.skip ?_);refine⟨by rw[hn];rfl,?_,rfl,rfl⟩;simp[aC,Av.get]
        | false=>
          simp only[al,deN,gdA,ae,aa,ah,an,evalOp,St.ev,Av.get,St.put,ofV,ai,Nat.reduceEqDiff,↓reduceIte,aG,AV.hfs,AV.hf,Bool.and_self,List.map_cons,List.map_nil,List.nil_append,List.append_nil,List.getElem?_cons_zero,List.getElem?_cons_succ,List.getElem?_toArray,Option.map_some,Option.bind_some,beq_false,Bool.not_false,Bool.false_eq_true,aU,cond_false,and_self,ls9,cU,iq,h1,hc,hx0];refine⟨hlet,?_⟩;refine .cond (t:=true) rfl (.seq (.region [] (by decide) ?_));simp only[al,gdA,ae,aa,ah,an,evalOp,St.ev,St.put,ofV,ai,Bool.not_false];refine .ret ?_;rw[hn];exact⟨_,rfl,_,rfl,.refl _⟩
  · intro hres
    refine .seq (.seq (.region [] (by decide) ?_));simp only[al,gdA,ae,aa,ah,an,evalOp,St.ev,St.put,ofV,ai];refine .block ?_
    refine .G5 3 21 22 23 0 s.length hL (Nat.zero_le _) rfl rfl rfl rfl rfl rfl rfl rfl rfl (by decide)
      (fun i=>[(0,.str s)]) (fun _=>rfl) (fun _=>[]) (fun _=>Nat.zero_le _) (fun i=>(s.drop i).all (fun y=>mR y.toNat)=mB s) rfl (by rw[hres];rfl) ?_ ?_ trivial ?_ ?_ ?_
    · simp only[bz,Av.get,Nat.reduceEqDiff,↓reduceIte,bg,dk,dm,and_self]
    · intro i _
      simp only[cm,AV.hlt,AV.bf,bH,Bool.and_self,Bool.and_true,Bool.true_and]
    · intro i hi hok
      refine .region [] (by decide) ?_;simp only[al,deN,gdA,ae,aa,ah,an,evalOp,St.ev,Av.get,St.put,ai,Nat.reduceEqDiff,↓reduceIte,Option.map_some,ls9,cU,dlt];refine⟨trivial,?_,trivial,trivial⟩;simp only[bz,Av.get,Nat.reduceEqDiff,↓reduceIte,bg,dk,dm,and_self]
    · intro i hi hok
      obtain⟨u,hu,hdrop⟩:=drop_at hi;rw[hdrop,List.all_cons]at hok;have hiu:=ix9 s i u hu;have hlet:ad Tryz.prog 166 [.int .u8 u.toNat] (.ret (.bool (gP u.toNat))):=letter _;have hm:mR u.toNat= !((!gP u.toNat)&&((decide ((u.toNat:Int)<48)||decide ((u.toNat:Int)>57))&&((u.toNat:Int) !=45))):=rfl;generalize gP u.toNat=d at hm hlet;generalize h1:decide ((u.toNat:Int)<48)=b1 at hm;generalize h2:decide ((u.toNat:Int)>57)=b2 at hm;generalize h3:((u.toNat:Int) !=45)=b3 at hm;have bad:mR u.toNat=false→mB s=false:=by intro h;rw[←hok,h];rfl
      refine .block (.seq (.region [.pure (.ret (.bool d))] (by decide) ?_));cases d<;>cases b1<;>cases b2<;>cases b3<;>simp only[al,gdA,ae,aa,ah,an,evalOp,St.ev,Av.get,St.put,ofV,ai,Nat.reduceEqDiff,↓reduceIte,aG,AV.hfs,AV.hf,Bool.and_self,List.map_cons,List.map_nil,List.nil_append,List.append_nil,List.getElem?_cons_zero,List.getElem?_cons_succ,List.getElem?_toArray,Option.map_some,Option.bind_some,beq_false,beq_true,Bool.not_true,Bool.not_false,Bool.false_eq_true,aU,cond_true,cond_false,cZ,hiu,cU,iq,ir,h1,h2,h3]<;>refine⟨hlet,?_⟩
      all_goals first
        | (refine .cond (t:=false) rfl (.skip ?_)
           refine⟨?_,?_,trivial,rfl⟩
           · rw[←hok,hm];rfl
           · simp only[bz,Av.get,Nat.reduceEqDiff,↓reduceIte,bg,dk,dm,and_self])
        | (refine .cond (t:=true) rfl (.seq (.region [] (by decide) ?_))
           simp only[al,gdA,ae,aa,ah,an,evalOp,St.ev,St.put,ofV,ai];rw[bad (by rw[hm];rfl)]
           exact .ret ⟨_,rfl,_,rfl,.refl _⟩)
    · intro hok
      simp only[ai,↓reduceIte,aO];refine .seq (.region [] (by decide) ?_);simp only[al,gdA,ae,aa,ah,an,evalOp,St.ev,St.put,ofV,ai];rw[List.drop_length]at hok;rw[←hok];exact .ret ⟨_,rfl,_,rfl,.refl _⟩
def shp:Nat→AV→Prop
 |0,v=>v.one=true
 |n+1,v=>∃l,v=.agg l∧l.length=n
def fI(p:AV→Bool):Nat→List AV→Int
 |_,[]=>-1
 |i,v::l=>if p v=true then(i:Int)else fI p (i+1) l
theorem Bg(p:AV→Bool):∀(l:List AV) (i:Nat),(fI p i l≥0)↔l.any p=true
 | [],_=>by simp[fI]
 |v::l,i=>by
  have ih:=Bg p l (i+1);simp only[fI,List.any_cons,Bool.or_eq_true];by_cases h:p v=true
  ·simp[h]
  ·rw[if_neg h];simpa[h]using ih
theorem og(p:AV→Bool)(l:List AV)(i:Nat):decide (fI p i l≥0)=l.any p:=by
 have:=Bg p l i;cases h:l.any p with
 |true=>exact decide_eq_true (this.2 h)
 |false=>exact decide_eq_false (fun hh=>by rw[this.1 hh]at h;cases h)
theorem kT{wd:Nat}{v:AV}(h:shp wd v):v.cells.length=esz wd:=by
 cases wd with
 |zero=>rw[dI h];rfl
 |succ n=>obtain⟨l,rfl,hl⟩:=h;exact hl
theorem oh{P:Program}{e wd:Nat}(hz:tsz P e=some (esz wd))(hg:tag P e=some (decide (wd≠0))){v:AV}(h:shp wd v)(H:List OB):ao P e (.vptr v.cells) H=some v:=by
 cases wd with
 |zero=>
  rw[dI h];simp[ao,hz,hg,ldA,esz]
 |succ n=>
  obtain⟨l,rfl,hl⟩:=h;subst hl;simp[ao,hz,hg,ldA,esz,AV.cells]
theorem Es{g h:FuncId}{fs cs:List AV}{b:Bool}{k:Nat}(h1:AV.hfs fs=true)(h2:AV.hfs cs=true):
    fz [.cells [.func (.func g) fs cs] b] (k+2) (.func (.func h) [] [.ptr 0 0])=some (.func (.func h) [] [.vptr [.func (.func g) fs cs]]):=by
  have hc:AV.hf (.func (.func g) fs cs)=true:=by simp[AV.hf,h1,h2]
  unfold fz;rw[if_neg (by simp[AV.hf,AV.hfs])];simp only[AV.hfs,AV.hf,Bool.false_and,Bool.false_eq_true,if_false,if_true,List.mapM_cons,List.mapM_nil];have:fz [.cells [.func (.func g) fs cs] b] (k+1) (.ptr 0 0)=some (.vptr [.func (.func g) fs cs]):=by
    unfold fz;rw[if_neg (by simp[AV.hf])];simp[AV.hfs,hc]
  rw[this];rfl
theorem Bh{H:List OB}{wd k:Nat}{x:Bool}{es:List AV}(h:AV.hfs es=true):fz H (k+1) (.vsl wd x es)=some (.vsl wd x es):=by
 unfold fz;rw[if_pos (by simpa[AV.hf]using h)]
theorem jq{g h:FuncId}{fs cs es:List AV}{b x o:Bool}{wd:Nat}(h0:AV.hfs es=true)(h1:AV.hfs fs=true)(h2:AV.hfs cs=true):
    aG [.cells [.func (.func g) fs cs] b] [.vsl wd x es,.func (.func h) [] [.ptr 0 0]] (.ret (.bool o))=some [.vsl wd x es,.func (.func h) [] [.vptr [.func (.func g) fs cs]]]:=by
  unfold aG;rw[if_neg (by simp[AV.hfs,AV.hf]),if_pos (show(Out.ret (AV.bool o)).scalar=true from rfl)];simp only[List.mapM_cons,List.mapM_nil,Bh h0,Es h1 h2];rfl
theorem J6:tsz Tryz.prog 5=some (esz 0):=by kernel_rfl
theorem Mj:tag Tryz.prog 5=some (decide (0≠0)):=by kernel_rfl
theorem Mk (x:Bool) (es:List AV) (g:FuncId) (fs cs:List AV) (p:AV→Bool) (hs: ∀v∈es,shp 0 v) (hh:AV.hfs es=true∧AV.hfs fs=true∧AV.hfs cs=true)
    (hp: ∀v∈es,ad Tryz.prog g (fs++[v]++cs) (.ret (.bool (p v)))):ad Tryz.prog 171 [.vsl 0 x es,.func (.func g) fs cs] (.ret (.int .i64 (fI p 0 es))):=by
  refine ad.fit fun hfit=> ?_;have hb:es.length≤ay:=hfit (.vsl 0 x es) (by simp);refine ad.of Tryz.func171 rfl (ab enters Tryz.func171 rfl) (by simp[Tryz.ntmps171]) ?_;show W Tryz.prog 19 _ none _ _ _;refine .seq (.region [] (by decide) ?_);simp only[al,gdA,ae,aa,ah,an,evalOp,St.ev,St.put,aL,ofV,ai];have hln: ∀H,aI Tryz.prog 108 (.vsl 0 x es) H=some (.int .i64 es.length):=by intro H;simp[aI,Tryz.underlying108]
  refine .seq (.seq (.region [] (by decide) ?_));simp only[al,deN,gdA,ae,aa,ah,an,evalOp,St.ev,Av.get,St.put,ofV,ai,Nat.reduceEqDiff,↓reduceIte,Option.map_some,hln];refine .block ?_
  refine .bc (X:=Nat) (fun i=>[(8,.int .i64 (i:Int)),(7,.int .i64 es.length),(1,.func (.func g) fs cs),(0,.vsl 0 x es)]) (fun i=>[]) (fun i=>i≤es.length∧fI p i (es.drop i)=fI p 0 es) (fun i=>es.length - i) 0 ⟨Nat.zero_le _,rfl⟩
    (by simp[aC,Av.get]) rfl ?_
  rintro i ⟨hi,hall⟩;refine .seq (.region [] (by decide) ?_);simp only[al,gdA,ae,aa,ah,an,evalOp,St.ev,Av.get,St.put,ai,Nat.reduceEqDiff,↓reduceIte,cU];by_cases h:i<es.length
  · obtain⟨v,hv⟩: ∃v,es[i]? =some v:=⟨es[i],List.getElem?_eq_getElem h⟩
    have hmem:v∈es:=List.mem_of_getElem? hv;have hdrop:es.drop i=v::es.drop (i+1):=by
      rw[List.drop_eq_getElem_cons h];rw[List.getElem?_eq_getElem h]at hv;cases hv;rfl
    rw[hdrop,fI]at hall;have hia: ∀H,ak Tryz.prog 108 (.vsl 0 x es) (.int .i64 (i:Int)) H=some (.vptr v.cells):=by
      intro H;have:=kT (hs v hmem);simp[ak,bt,Tryz.underlying108,J6,hv,this]
    have hld: ∀H,ao Tryz.prog 5 (.vptr v.cells) H=some v:=fun H=>oh J6 Mj (hs v hmem) H;have hhf:AV.hfs (fs++([v]++cs))=true:=by
      have h1:AV.hf v=true:=by have:=hh.1;rw[aR]at this;exact List.all_eq_true.1 this v hmem
      have h2:=hh.2.1;have h3:=hh.2.2;rw[aR]at h2 h3 ⊢;simp[List.all_append,h1,h2,h3]
    refine .seq (.cond (t:=true) (by simp[St.ev,Av.get];omega) (.skip ?_));simp only[ai];refine .nO (p v=false) [(8,.int .i64 (i:Int)),(7,.int .i64 es.length),(1,.func (.func g) fs cs),(0,.vsl 0 x es)] [] (x:=Code.block 1 _) ?_ ?_
    · refine .block (.seq (.region [] (by decide) ?_))
      simp only[al,gdA,ae,aa,ah,an,evalOp,St.ev,Av.get,St.put,ai,Nat.reduceEqDiff,↓reduceIte];refine .seq (.region [.pure (.ret (.bool (p v)))] (by decide) ?_);simp only[al,gdA,ae,aa,ah,an,evalOp,St.ev,Av.get,St.put,ai,Nat.reduceEqDiff,↓reduceIte,aG,List.map_cons,List.map_nil,Option.map_some,hia,hld,List.append_assoc,hhf];refine⟨by have:=hp v hmem;rw[List.append_assoc]at this;exact this,?_⟩;cases hpv:p v with
      | true=>
        refine .cond (t:=true) rfl (.seq (.region [] (by decide) ?_));simp only[al,gdA,ae,aa,ah,an,evalOp,St.ev,Av.get,St.put,ai,Nat.reduceEqDiff,↓reduceIte];refine .ret ?_;rw[if_pos hpv]at hall;rw[←hall];exact⟨_,rfl,_,rfl,.refl _⟩
      | false=>
        refine .cond (t:=false) rfl (.skip ?_);refine⟨rfl,?_,rfl,rfl⟩;simp[aC,Av.get]
    · intro hgood
      rw[hgood]at hall;simp only[Bool.false_eq_true,if_false]at hall;refine .region [] (by decide) ?_;have hadd:aH Tryz.prog .add 3 (.int .i64 (i:Int)) (.int .i64 1)=some (.int .i64 ((i+1:Nat):Int)):=by
        rw[dc _ _ (by simp only[ay]at hb;omega)];simp
      simp only[al,gdA,ae,aa,ah,an,evalOp,St.ev,Av.get,St.put,ofV,ai,↓reduceIte,hadd];refine⟨i+1,⟨by omega,hall⟩,by omega,?_,trivial,trivial⟩;simp[aC,Av.get]
  · have hi':i=es.length:=by omega
    subst hi';refine .seq (.cond (t:=false) (by simp[St.ev,Av.get]) (.exit ?_));simp only[ai,↓reduceIte,aO];refine .seq (.region [] (by decide) ?_);have ht:fI p 0 es= -1:=by rw[←hall,List.drop_length];rfl
    rw[ht];simp only[al,gdA,ae,aa,ah,an,evalOp,St.ev,St.put,ofV,ai];exact .ret ⟨_,rfl,_,rfl,.refl _⟩
theorem cfB (x:Bool) (es:List AV) (g:FuncId) (fs cs:List AV) (p:AV→Bool) (hs: ∀v∈es,shp 0 v) (hh:AV.hfs es=true∧AV.hfs fs=true∧AV.hfs cs=true)
    (hp: ∀v∈es,ad Tryz.prog g (fs++[v]++cs) (.ret (.bool (p v)))):ad Tryz.prog 136 [.vsl 0 x es,.func (.func g) fs cs] (.ret (.bool (es.any p))):=by
  refine ad.of Tryz.func136 rfl (ab enters Tryz.func136 rfl) (by simp[Tryz.ntmps136]) ?_;show W Tryz.prog 9 _ none _ _ _;refine .seq (.region [] (by decide) ?_);simp only[al,gdA,ae,aa,ah,an,evalOp,St.ev,St.put,aL,ofV,ai];refine .seq (.region [.pure (.ret (.int .i64 (fI p 0 es)))] (by decide) ?_);obtain⟨h1,h2,h3⟩:=hh;simp only[al,gdA,ae,aa,ah,an,evalOp,St.ev,Av.get,St.put,ofV,ai,Nat.reduceEqDiff,↓reduceIte,aG,AV.hfs,AV.hf,Bool.and_self,List.map_cons,List.map_nil,List.nil_append,List.append_nil,h1,h2,h3,cB,og];refine⟨Mk x es g fs cs p hs ⟨h1,h2,h3⟩ hp,?_⟩;exact .ret ⟨_,rfl,_,rfl,.refl _⟩
theorem Ml(v:AV)(hsh:shp 0 v)(g:FuncId)(fs cs:List AV)(p:Bool)(hv:AV.hf v=true)(h1:AV.hfs fs=true)(h2:AV.hfs cs=true)(hp:ad Tryz.prog g (fs++[v]++cs) (.ret (.bool p))):
    ad Tryz.prog 137 [v,.vptr [.func (.func g) fs cs]] (.ret (.bool !p)):=by
  skip
  refine ad.of Tryz.func137 rfl (ab enters Tryz.func137 rfl) (by simp[Tryz.ntmps137]) ?_;show W Tryz.prog 8 _ none _ _ _;have hz:tsz Tryz.prog 121=some 1:=by kernel_rfl
  have hg:tag Tryz.prog 121=some false:=by kernel_rfl
  have hld: ∀H,ao Tryz.prog 121 (.vptr [.func (.func g) fs cs]) H=some (.func (.func g) fs cs):=by intro H;simp[ao,hz,hg,ldA]
  have hhf:AV.hfs (fs++([v]++cs))=true:=by
    rw[aR]at h1 h2 ⊢;simp[List.all_append,h1,h2,hv]
  have hld2:True:=trivial;refine .seq (.region [] (by decide) ?_);simp only[al,gdA,ae,aa,ah,an,evalOp,St.ev,St.put,aL,ofV,ai];refine .seq (.region [.pure (.ret (.bool p))] (by decide) ?_);simp only[al,gdA,ae,aa,ah,an,evalOp,St.ev,Av.get,St.put,ai,Nat.reduceEqDiff,↓reduceIte,aG,List.map_cons,List.map_nil,Option.map_some,hld,hld2,List.append_assoc,hhf,cZ];refine⟨by rw[List.append_assoc]at hp;exact hp,?_⟩;exact .ret ⟨_,rfl,_,rfl,.refl _⟩
theorem Bi (x:Bool) (es:List AV) (g:FuncId) (fs cs:List AV) (p:AV→Bool) (hs: ∀v∈es,shp 0 v) (hh:AV.hfs es=true∧AV.hfs fs=true∧AV.hfs cs=true)
    (hp: ∀v∈es,ad Tryz.prog g (fs++[v]++cs) (.ret (.bool (p v)))):ad Tryz.prog 93 [.vsl 0 x es,.func (.func g) fs cs] (.ret (.bool (es.all p))):=by
  obtain⟨h0,h1,h2⟩:=hh;refine ad.of Tryz.func93 rfl (ab enters Tryz.func93 rfl) (by simp[Tryz.ntmps93]) ?_;show W Tryz.prog 9 _ none _ _ _;refine .seq (.region [] (by decide) ?_);simp only[al,gdA,ae,aa,ah,an,evalOp,St.ev,Av.get,St.put,aL,ofV,ai,Nat.reduceEqDiff,↓reduceIte,List.nil_append,AV.told,AV.cells,List.length_nil];have hl:=jq (g:=g) (fs:=fs) (cs:=cs) (es:=es) (h:=137) (b:=false) (x:=x) (wd:=0) (o:=es.any fun v=> !p v) h0 h1 h2;refine .seq (.region [.pure (.ret (.bool (es.any fun v=> !p v)))] (by decide) ?_)
  simp only[al,gdA,ae,aa,ah,an,evalOp,St.ev,Av.get,St.put,ai,Nat.reduceEqDiff,↓reduceIte,List.map_cons,List.map_nil,List.nil_append,List.append_nil,Option.map_some,hl,cZ];refine⟨cfB x es 137 [] [.vptr [.func (.func g) fs cs]] (fun v=> !p v) hs ⟨h0,rfl,by simp[AV.hfs,AV.hf,h1,h2]⟩ (fun v hv=>Ml v (hs v hv) g fs cs (p v) ?_ h1 h2 (hp v hv)),?_⟩
  · rw[aR]at h0;exact List.all_eq_true.1 h0 v hv
  · refine .ret ⟨_,rfl,_,rfl,?_⟩
    have:(!es.any fun v=> !p v)=es.all p:=by
      rw[List.any_eq_not_all_not];simp
    rw[this];exact .refl _
theorem J7:tsz Tryz.prog 55=some (esz 3):=by kernel_rfl
theorem Mm:tag Tryz.prog 55=some (decide (3≠0)):=by kernel_rfl
theorem Mn (x:Bool) (es:List AV) (g:FuncId) (fs cs:List AV) (p:AV→Bool) (hs: ∀v∈es,shp 3 v) (hh:AV.hfs es=true∧AV.hfs fs=true∧AV.hfs cs=true)
    (hp: ∀v∈es,ad Tryz.prog g (fs++[v]++cs) (.ret (.bool (p v)))):ad Tryz.prog 170 [.vsl 3 x es,.func (.func g) fs cs] (.ret (.int .i64 (fI p 0 es))):=by
  refine ad.fit fun hfit=> ?_;have hb:es.length≤ay:=hfit (.vsl 3 x es) (by simp);refine ad.of Tryz.func170 rfl (ab enters Tryz.func170 rfl) (by simp[Tryz.ntmps170]) ?_;show W Tryz.prog 19 _ none _ _ _;refine .seq (.region [] (by decide) ?_);simp only[al,gdA,ae,aa,ah,an,evalOp,St.ev,St.put,aL,ofV,ai];have hln: ∀H,aI Tryz.prog 44 (.vsl 3 x es) H=some (.int .i64 es.length):=by intro H;simp[aI,Tryz.underlying44]
  refine .seq (.seq (.region [] (by decide) ?_));simp only[al,deN,gdA,ae,aa,ah,an,evalOp,St.ev,Av.get,St.put,ofV,ai,Nat.reduceEqDiff,↓reduceIte,Option.map_some,hln];refine .block ?_
  refine .bc (X:=Nat) (fun i=>[(8,.int .i64 (i:Int)),(7,.int .i64 es.length),(1,.func (.func g) fs cs),(0,.vsl 3 x es)]) (fun i=>[]) (fun i=>i≤es.length∧fI p i (es.drop i)=fI p 0 es) (fun i=>es.length - i) 0 ⟨Nat.zero_le _,rfl⟩
    (by simp[aC,Av.get]) rfl ?_
  rintro i ⟨hi,hall⟩;refine .seq (.region [] (by decide) ?_);simp only[al,gdA,ae,aa,ah,an,evalOp,St.ev,Av.get,St.put,ai,Nat.reduceEqDiff,↓reduceIte,cU];by_cases h:i<es.length
  · obtain⟨v,hv⟩: ∃v,es[i]? =some v:=⟨es[i],List.getElem?_eq_getElem h⟩
    have hmem:v∈es:=List.mem_of_getElem? hv;have hdrop:es.drop i=v::es.drop (i+1):=by
      rw[List.drop_eq_getElem_cons h];rw[List.getElem?_eq_getElem h]at hv;cases hv;rfl
    rw[hdrop,fI]at hall;have hia: ∀H,ak Tryz.prog 44 (.vsl 3 x es) (.int .i64 (i:Int)) H=some (.vptr v.cells):=by
      intro H;have:=kT (hs v hmem);simp[ak,bt,Tryz.underlying44,J7,hv,this]
    have hld: ∀H,ao Tryz.prog 55 (.vptr v.cells) H=some v:=fun H=>oh J7 Mm (hs v hmem) H;have hhf:AV.hfs (fs++([v]++cs))=true:=by
      have h1:AV.hf v=true:=by have:=hh.1;rw[aR]at this;exact List.all_eq_true.1 this v hmem
      have h2:=hh.2.1;have h3:=hh.2.2;rw[aR]at h2 h3 ⊢;simp[List.all_append,h1,h2,h3]
    refine .seq (.cond (t:=true) (by simp[St.ev,Av.get];omega) (.skip ?_));simp only[ai];refine .nO (p v=false) [(8,.int .i64 (i:Int)),(7,.int .i64 es.length),(1,.func (.func g) fs cs),(0,.vsl 3 x es)] [] (x:=Code.block 1 _) ?_ ?_
    · refine .block (.seq (.region [] (by decide) ?_))
      simp only[al,gdA,ae,aa,ah,an,evalOp,St.ev,Av.get,St.put,ai,Nat.reduceEqDiff,↓reduceIte];refine .seq (.region [.pure (.ret (.bool (p v)))] (by decide) ?_);simp only[al,gdA,ae,aa,ah,an,evalOp,St.ev,Av.get,St.put,ai,Nat.reduceEqDiff,↓reduceIte,aG,List.map_cons,List.map_nil,Option.map_some,hia,hld,List.append_assoc,hhf];refine⟨by have:=hp v hmem;rw[List.append_assoc]at this;exact this,?_⟩;cases hpv:p v with
      | true=>
        refine .cond (t:=true) rfl (.seq (.region [] (by decide) ?_));simp only[al,gdA,ae,aa,ah,an,evalOp,St.ev,Av.get,St.put,ai,Nat.reduceEqDiff,↓reduceIte];refine .ret ?_;rw[if_pos hpv]at hall;rw[←hall];exact⟨_,rfl,_,rfl,.refl _⟩
      | false=>
        refine .cond (t:=false) rfl (.skip ?_);refine⟨rfl,?_,rfl,rfl⟩;simp[aC,Av.get]
    · intro hgood
      rw[hgood]at hall;simp only[Bool.false_eq_true,if_false]at hall;refine .region [] (by decide) ?_;have hadd:aH Tryz.prog .add 3 (.int .i64 (i:Int)) (.int .i64 1)=some (.int .i64 ((i+1:Nat):Int)):=by
        rw[dc _ _ (by simp only[ay]at hb;omega)];simp
      simp only[al,gdA,ae,aa,ah,an,evalOp,St.ev,Av.get,St.put,ofV,ai,↓reduceIte,hadd];refine⟨i+1,⟨by omega,hall⟩,by omega,?_,trivial,trivial⟩;simp[aC,Av.get]
  · have hi':i=es.length:=by omega
    subst hi';refine .seq (.cond (t:=false) (by simp[St.ev,Av.get]) (.exit ?_));simp only[ai,↓reduceIte,aO];refine .seq (.region [] (by decide) ?_);have ht:fI p 0 es= -1:=by rw[←hall,List.drop_length];rfl
    rw[ht];simp only[al,gdA,ae,aa,ah,an,evalOp,St.ev,St.put,ofV,ai];exact .ret ⟨_,rfl,_,rfl,.refl _⟩
theorem cfP (x:Bool) (es:List AV) (g:FuncId) (fs cs:List AV) (p:AV→Bool) (hs: ∀v∈es,shp 3 v) (hh:AV.hfs es=true∧AV.hfs fs=true∧AV.hfs cs=true)
    (hp: ∀v∈es,ad Tryz.prog g (fs++[v]++cs) (.ret (.bool (p v)))):ad Tryz.prog 133 [.vsl 3 x es,.func (.func g) fs cs] (.ret (.bool (es.any p))):=by
  refine ad.of Tryz.func133 rfl (ab enters Tryz.func133 rfl) (by simp[Tryz.ntmps133]) ?_;show W Tryz.prog 9 _ none _ _ _;refine .seq (.region [] (by decide) ?_);simp only[al,gdA,ae,aa,ah,an,evalOp,St.ev,St.put,aL,ofV,ai];refine .seq (.region [.pure (.ret (.int .i64 (fI p 0 es)))] (by decide) ?_);obtain⟨h1,h2,h3⟩:=hh;simp only[al,gdA,ae,aa,ah,an,evalOp,St.ev,Av.get,St.put,ofV,ai,Nat.reduceEqDiff,↓reduceIte,aG,AV.hfs,AV.hf,Bool.and_self,List.map_cons,List.map_nil,List.nil_append,List.append_nil,h1,h2,h3,cB,og];refine⟨Mn x es g fs cs p hs ⟨h1,h2,h3⟩ hp,?_⟩;exact .ret ⟨_,rfl,_,rfl,.refl _⟩
theorem Mo(v:AV)(hsh:shp 3 v)(g:FuncId)(fs cs:List AV)(p:Bool)(hv:AV.hf v=true)(h1:AV.hfs fs=true)(h2:AV.hfs cs=true)(hp:ad Tryz.prog g (fs++[v]++cs) (.ret (.bool p))):
    ad Tryz.prog 134 [v,.vptr [.func (.func g) fs cs]] (.ret (.bool !p)):=by
  skip
  refine ad.of Tryz.func134 rfl (ab enters Tryz.func134 rfl) (by simp[Tryz.ntmps134]) ?_;show W Tryz.prog 8 _ none _ _ _;have hz:tsz Tryz.prog 119=some 1:=by kernel_rfl
  have hg:tag Tryz.prog 119=some false:=by kernel_rfl
  have hld: ∀H,ao Tryz.prog 119 (.vptr [.func (.func g) fs cs]) H=some (.func (.func g) fs cs):=by intro H;simp[ao,hz,hg,ldA]
  have hhf:AV.hfs (fs++([v]++cs))=true:=by
    rw[aR]at h1 h2 ⊢;simp[List.all_append,h1,h2,hv]
  obtain⟨l,rfl,hl'⟩:=hsh;have hl:l.length=2:=hl';have hz2:tsz Tryz.prog 55=some 2:=by kernel_rfl
  have hg2:tag Tryz.prog 55=some true:=by kernel_rfl
  have hld2:ao Tryz.prog 55 (.ptr 0 0) [.cells l false]=some (.agg l):=by
    simp[ao,hz2,hg2,ldA,hl];exact List.take_of_length_le (by rw[hl];exact Nat.le_refl 2)
  refine .seq (.region [] (by decide) ?_);simp only[al,gdA,ae,aa,ah,an,evalOp,St.ev,Av.get,St.put,aL,ofV,ai,↓reduceIte,List.nil_append,AV.told,AV.cells,List.length_nil];refine .seq (.region [.pure (.ret (.bool p))] (by decide) ?_);simp only[al,gdA,ae,aa,ah,an,evalOp,St.ev,Av.get,St.put,ai,Nat.reduceEqDiff,↓reduceIte,aG,List.map_cons,List.map_nil,Option.map_some,hld,hld2,List.append_assoc,hhf,cZ];refine⟨by rw[List.append_assoc]at hp;exact hp,?_⟩;exact .ret ⟨_,rfl,_,rfl,.refl _⟩
theorem Hz (x:Bool) (es:List AV) (g:FuncId) (fs cs:List AV) (p:AV→Bool) (hs: ∀v∈es,shp 3 v) (hh:AV.hfs es=true∧AV.hfs fs=true∧AV.hfs cs=true)
    (hp: ∀v∈es,ad Tryz.prog g (fs++[v]++cs) (.ret (.bool (p v)))):ad Tryz.prog 91 [.vsl 3 x es,.func (.func g) fs cs] (.ret (.bool (es.all p))):=by
  obtain⟨h0,h1,h2⟩:=hh;refine ad.of Tryz.func91 rfl (ab enters Tryz.func91 rfl) (by simp[Tryz.ntmps91]) ?_;show W Tryz.prog 9 _ none _ _ _;refine .seq (.region [] (by decide) ?_);simp only[al,gdA,ae,aa,ah,an,evalOp,St.ev,Av.get,St.put,aL,ofV,ai,Nat.reduceEqDiff,↓reduceIte,List.nil_append,AV.told,AV.cells,List.length_nil];have hl:=jq (g:=g) (fs:=fs) (cs:=cs) (es:=es) (h:=134) (b:=false) (x:=x) (wd:=3) (o:=es.any fun v=> !p v) h0 h1 h2;refine .seq (.region [.pure (.ret (.bool (es.any fun v=> !p v)))] (by decide) ?_)
  simp only[al,gdA,ae,aa,ah,an,evalOp,St.ev,Av.get,St.put,ai,Nat.reduceEqDiff,↓reduceIte,List.map_cons,List.map_nil,List.nil_append,List.append_nil,Option.map_some,hl,cZ];refine⟨cfP x es 134 [] [.vptr [.func (.func g) fs cs]] (fun v=> !p v) hs ⟨h0,rfl,by simp[AV.hfs,AV.hf,h1,h2]⟩ (fun v hv=>Mo v (hs v hv) g fs cs (p v) ?_ h1 h2 (hp v hv)),?_⟩
  · rw[aR]at h0;exact List.all_eq_true.1 h0 v hv
  · refine .ret ⟨_,rfl,_,rfl,?_⟩
    have:(!es.any fun v=> !p v)=es.all p:=by
      rw[List.any_eq_not_all_not];simp
    rw[this];exact .refl _
theorem J8:tsz Tryz.prog 46=some (esz 5):=by kernel_rfl
theorem Mp:tag Tryz.prog 46=some (decide (5≠0)):=by kernel_rfl
theorem Mq (x:Bool) (es:List AV) (g:FuncId) (fs cs:List AV) (p:AV→Bool) (hs: ∀v∈es,shp 5 v) (hh:AV.hfs es=true∧AV.hfs fs=true∧AV.hfs cs=true)
    (hp: ∀v∈es,ad Tryz.prog g (fs++[v]++cs) (.ret (.bool (p v)))):ad Tryz.prog 131 [.vsl 5 x es,.func (.func g) fs cs] (.ret (.int .i64 (fI p 0 es))):=by
  refine ad.fit fun hfit=> ?_;have hb:es.length≤ay:=hfit (.vsl 5 x es) (by simp);refine ad.of Tryz.func131 rfl (ab enters Tryz.func131 rfl) (by simp[Tryz.ntmps131]) ?_;show W Tryz.prog 19 _ none _ _ _;refine .seq (.region [] (by decide) ?_);simp only[al,gdA,ae,aa,ah,an,evalOp,St.ev,St.put,aL,ofV,ai];have hln: ∀H,aI Tryz.prog 22 (.vsl 5 x es) H=some (.int .i64 es.length):=by intro H;simp[aI,Tryz.underlying22]
  refine .seq (.seq (.region [] (by decide) ?_));simp only[al,deN,gdA,ae,aa,ah,an,evalOp,St.ev,Av.get,St.put,ofV,ai,Nat.reduceEqDiff,↓reduceIte,Option.map_some,hln];refine .block ?_
  refine .bc (X:=Nat) (fun i=>[(8,.int .i64 (i:Int)),(7,.int .i64 es.length),(1,.func (.func g) fs cs),(0,.vsl 5 x es)]) (fun i=>[]) (fun i=>i≤es.length∧fI p i (es.drop i)=fI p 0 es) (fun i=>es.length - i) 0 ⟨Nat.zero_le _,rfl⟩
    (by simp[aC,Av.get]) rfl ?_
  rintro i ⟨hi,hall⟩;refine .seq (.region [] (by decide) ?_);simp only[al,gdA,ae,aa,ah,an,evalOp,St.ev,Av.get,St.put,ai,Nat.reduceEqDiff,↓reduceIte,cU];by_cases h:i<es.length
  · obtain⟨v,hv⟩: ∃v,es[i]? =some v:=⟨es[i],List.getElem?_eq_getElem h⟩
    have hmem:v∈es:=List.mem_of_getElem? hv;have hdrop:es.drop i=v::es.drop (i+1):=by
      rw[List.drop_eq_getElem_cons h];rw[List.getElem?_eq_getElem h]at hv;cases hv;rfl
    rw[hdrop,fI]at hall;have hia: ∀H,ak Tryz.prog 22 (.vsl 5 x es) (.int .i64 (i:Int)) H=some (.vptr v.cells):=by
      intro H;have:=kT (hs v hmem);simp[ak,bt,Tryz.underlying22,J8,hv,this]
    have hld: ∀H,ao Tryz.prog 46 (.vptr v.cells) H=some v:=fun H=>oh J8 Mp (hs v hmem) H;have hhf:AV.hfs (fs++([v]++cs))=true:=by
      have h1:AV.hf v=true:=by have:=hh.1;rw[aR]at this;exact List.all_eq_true.1 this v hmem
      have h2:=hh.2.1;have h3:=hh.2.2;rw[aR]at h2 h3 ⊢;simp[List.all_append,h1,h2,h3]
    refine .seq (.cond (t:=true) (by simp[St.ev,Av.get];omega) (.skip ?_));simp only[ai];refine .nO (p v=false) [(8,.int .i64 (i:Int)),(7,.int .i64 es.length),(1,.func (.func g) fs cs),(0,.vsl 5 x es)] [] (x:=Code.block 1 _) ?_ ?_
    · refine .block (.seq (.region [] (by decide) ?_))
      simp only[al,gdA,ae,aa,ah,an,evalOp,St.ev,Av.get,St.put,ai,Nat.reduceEqDiff,↓reduceIte];refine .seq (.region [.pure (.ret (.bool (p v)))] (by decide) ?_);simp only[al,gdA,ae,aa,ah,an,evalOp,St.ev,Av.get,St.put,ai,Nat.reduceEqDiff,↓reduceIte,aG,List.map_cons,List.map_nil,Option.map_some,hia,hld,List.append_assoc,hhf];refine⟨by have:=hp v hmem;rw[List.append_assoc]at this;exact this,?_⟩;cases hpv:p v with
      | true=>
        refine .cond (t:=true) rfl (.seq (.region [] (by decide) ?_));simp only[al,gdA,ae,aa,ah,an,evalOp,St.ev,Av.get,St.put,ai,Nat.reduceEqDiff,↓reduceIte];refine .ret ?_;rw[if_pos hpv]at hall;rw[←hall];exact⟨_,rfl,_,rfl,.refl _⟩
      | false=>
        refine .cond (t:=false) rfl (.skip ?_);refine⟨rfl,?_,rfl,rfl⟩;simp[aC,Av.get]
    · intro hgood
      rw[hgood]at hall;simp only[Bool.false_eq_true,if_false]at hall;refine .region [] (by decide) ?_;have hadd:aH Tryz.prog .add 3 (.int .i64 (i:Int)) (.int .i64 1)=some (.int .i64 ((i+1:Nat):Int)):=by
        rw[dc _ _ (by simp only[ay]at hb;omega)];simp
      simp only[al,gdA,ae,aa,ah,an,evalOp,St.ev,Av.get,St.put,ofV,ai,↓reduceIte,hadd];refine⟨i+1,⟨by omega,hall⟩,by omega,?_,trivial,trivial⟩;simp[aC,Av.get]
  · have hi':i=es.length:=by omega
    subst hi';refine .seq (.cond (t:=false) (by simp[St.ev,Av.get]) (.exit ?_));simp only[ai,↓reduceIte,aO];refine .seq (.region [] (by decide) ?_);have ht:fI p 0 es= -1:=by rw[←hall,List.drop_length];rfl
    rw[ht];simp only[al,gdA,ae,aa,ah,an,evalOp,St.ev,St.put,ofV,ai];exact .ret ⟨_,rfl,_,rfl,.refl _⟩
theorem cfL (x:Bool) (es:List AV) (g:FuncId) (fs cs:List AV) (p:AV→Bool) (hs: ∀v∈es,shp 5 v) (hh:AV.hfs es=true∧AV.hfs fs=true∧AV.hfs cs=true)
    (hp: ∀v∈es,ad Tryz.prog g (fs++[v]++cs) (.ret (.bool (p v)))):ad Tryz.prog 88 [.vsl 5 x es,.func (.func g) fs cs] (.ret (.bool (es.any p))):=by
  refine ad.of Tryz.func88 rfl (ab enters Tryz.func88 rfl) (by simp[Tryz.ntmps88]) ?_;show W Tryz.prog 9 _ none _ _ _;refine .seq (.region [] (by decide) ?_);simp only[al,gdA,ae,aa,ah,an,evalOp,St.ev,St.put,aL,ofV,ai];refine .seq (.region [.pure (.ret (.int .i64 (fI p 0 es)))] (by decide) ?_);obtain⟨h1,h2,h3⟩:=hh;simp only[al,gdA,ae,aa,ah,an,evalOp,St.ev,Av.get,St.put,ofV,ai,Nat.reduceEqDiff,↓reduceIte,aG,AV.hfs,AV.hf,Bool.and_self,List.map_cons,List.map_nil,List.nil_append,List.append_nil,h1,h2,h3,cB,og];refine⟨Mq x es g fs cs p hs ⟨h1,h2,h3⟩ hp,?_⟩;exact .ret ⟨_,rfl,_,rfl,.refl _⟩
theorem Mr(v:AV)(hsh:shp 5 v)(g:FuncId)(fs cs:List AV)(p:Bool)(hv:AV.hf v=true)(h1:AV.hfs fs=true)(h2:AV.hfs cs=true)(hp:ad Tryz.prog g (fs++[v]++cs) (.ret (.bool p))):
    ad Tryz.prog 89 [v,.vptr [.func (.func g) fs cs]] (.ret (.bool !p)):=by
  skip
  refine ad.of Tryz.func89 rfl (ab enters Tryz.func89 rfl) (by simp[Tryz.ntmps89]) ?_;show W Tryz.prog 8 _ none _ _ _;have hz:tsz Tryz.prog 43=some 1:=by kernel_rfl
  have hg:tag Tryz.prog 43=some false:=by kernel_rfl
  have hld: ∀H,ao Tryz.prog 43 (.vptr [.func (.func g) fs cs]) H=some (.func (.func g) fs cs):=by intro H;simp[ao,hz,hg,ldA]
  have hhf:AV.hfs (fs++([v]++cs))=true:=by
    rw[aR]at h1 h2 ⊢;simp[List.all_append,h1,h2,hv]
  obtain⟨l,rfl,hl'⟩:=hsh;have hl:l.length=4:=hl';have hz2:tsz Tryz.prog 46=some 4:=by kernel_rfl
  have hg2:tag Tryz.prog 46=some true:=by kernel_rfl
  have hld2:ao Tryz.prog 46 (.ptr 0 0) [.cells l false]=some (.agg l):=by
    simp[ao,hz2,hg2,ldA,hl];exact List.take_of_length_le (by rw[hl];exact Nat.le_refl 4)
  refine .seq (.region [] (by decide) ?_);simp only[al,gdA,ae,aa,ah,an,evalOp,St.ev,Av.get,St.put,aL,ofV,ai,↓reduceIte,List.nil_append,AV.told,AV.cells,List.length_nil];refine .seq (.region [.pure (.ret (.bool p))] (by decide) ?_);simp only[al,gdA,ae,aa,ah,an,evalOp,St.ev,Av.get,St.put,ai,Nat.reduceEqDiff,↓reduceIte,aG,List.map_cons,List.map_nil,Option.map_some,hld,hld2,List.append_assoc,hhf,cZ];refine⟨by rw[List.append_assoc]at hp;exact hp,?_⟩;exact .ret ⟨_,rfl,_,rfl,.refl _⟩
theorem HA (x:Bool) (es:List AV) (g:FuncId) (fs cs:List AV) (p:AV→Bool) (hs: ∀v∈es,shp 5 v) (hh:AV.hfs es=true∧AV.hfs fs=true∧AV.hfs cs=true)
    (hp: ∀v∈es,ad Tryz.prog g (fs++[v]++cs) (.ret (.bool (p v)))):ad Tryz.prog 46 [.vsl 5 x es,.func (.func g) fs cs] (.ret (.bool (es.all p))):=by
  obtain⟨h0,h1,h2⟩:=hh;refine ad.of Tryz.func46 rfl (ab enters Tryz.func46 rfl) (by simp[Tryz.ntmps46]) ?_;show W Tryz.prog 9 _ none _ _ _;refine .seq (.region [] (by decide) ?_);simp only[al,gdA,ae,aa,ah,an,evalOp,St.ev,Av.get,St.put,aL,ofV,ai,Nat.reduceEqDiff,↓reduceIte,List.nil_append,AV.told,AV.cells,List.length_nil];have hl:=jq (g:=g) (fs:=fs) (cs:=cs) (es:=es) (h:=89) (b:=false) (x:=x) (wd:=5) (o:=es.any fun v=> !p v) h0 h1 h2;refine .seq (.region [.pure (.ret (.bool (es.any fun v=> !p v)))] (by decide) ?_)
  simp only[al,gdA,ae,aa,ah,an,evalOp,St.ev,Av.get,St.put,ai,Nat.reduceEqDiff,↓reduceIte,List.map_cons,List.map_nil,List.nil_append,List.append_nil,Option.map_some,hl,cZ];refine⟨cfL x es 89 [] [.vptr [.func (.func g) fs cs]] (fun v=> !p v) hs ⟨h0,rfl,by simp[AV.hfs,AV.hf,h1,h2]⟩ (fun v hv=>Mr v (hs v hv) g fs cs (p v) ?_ h1 h2 (hp v hv)),?_⟩
  · rw[aR]at h0;exact List.all_eq_true.1 h0 v hv
  · refine .ret ⟨_,rfl,_,rfl,?_⟩
    have:(!es.any fun v=> !p v)=es.all p:=by
      rw[List.any_eq_not_all_not];simp
    rw[this];exact .refl _
theorem J9:tsz Tryz.prog 159=some (esz 3):=by kernel_rfl
theorem Ms:tag Tryz.prog 159=some (decide (3≠0)):=by kernel_rfl
theorem Mt (x:Bool) (es:List AV) (g:FuncId) (fs cs:List AV) (p:AV→Bool) (hs: ∀v∈es,shp 3 v) (hh:AV.hfs es=true∧AV.hfs fs=true∧AV.hfs cs=true)
    (hp: ∀v∈es,ad Tryz.prog g (fs++[v]++cs) (.ret (.bool (p v)))):ad Tryz.prog 212 [.vsl 3 x es,.func (.func g) fs cs] (.ret (.int .i64 (fI p 0 es))):=by
  refine ad.fit fun hfit=> ?_;have hb:es.length≤ay:=hfit (.vsl 3 x es) (by simp);refine ad.of Tryz.func212 rfl (ab enters Tryz.func212 rfl) (by simp[Tryz.ntmps212]) ?_;show W Tryz.prog 19 _ none _ _ _;refine .seq (.region [] (by decide) ?_);simp only[al,gdA,ae,aa,ah,an,evalOp,St.ev,St.put,aL,ofV,ai];have hln: ∀H,aI Tryz.prog 160 (.vsl 3 x es) H=some (.int .i64 es.length):=by intro H;simp[aI,Tryz.underlying160]
  refine .seq (.seq (.region [] (by decide) ?_));simp only[al,deN,gdA,ae,aa,ah,an,evalOp,St.ev,Av.get,St.put,ofV,ai,Nat.reduceEqDiff,↓reduceIte,Option.map_some,hln];refine .block ?_
  refine .bc (X:=Nat) (fun i=>[(8,.int .i64 (i:Int)),(7,.int .i64 es.length),(1,.func (.func g) fs cs),(0,.vsl 3 x es)]) (fun i=>[]) (fun i=>i≤es.length∧fI p i (es.drop i)=fI p 0 es) (fun i=>es.length - i) 0 ⟨Nat.zero_le _,rfl⟩
    (by simp[aC,Av.get]) rfl ?_
  rintro i ⟨hi,hall⟩;refine .seq (.region [] (by decide) ?_);simp only[al,gdA,ae,aa,ah,an,evalOp,St.ev,Av.get,St.put,ai,Nat.reduceEqDiff,↓reduceIte,cU];by_cases h:i<es.length
  · obtain⟨v,hv⟩: ∃v,es[i]? =some v:=⟨es[i],List.getElem?_eq_getElem h⟩
    have hmem:v∈es:=List.mem_of_getElem? hv;have hdrop:es.drop i=v::es.drop (i+1):=by
      rw[List.drop_eq_getElem_cons h];rw[List.getElem?_eq_getElem h]at hv;cases hv;rfl
    rw[hdrop,fI]at hall;have hia: ∀H,ak Tryz.prog 160 (.vsl 3 x es) (.int .i64 (i:Int)) H=some (.vptr v.cells):=by
      intro H;have:=kT (hs v hmem);simp[ak,bt,Tryz.underlying160,J9,hv,this]
    have hld: ∀H,ao Tryz.prog 159 (.vptr v.cells) H=some v:=fun H=>oh J9 Ms (hs v hmem) H;have hhf:AV.hfs (fs++([v]++cs))=true:=by
      have h1:AV.hf v=true:=by have:=hh.1;rw[aR]at this;exact List.all_eq_true.1 this v hmem
      have h2:=hh.2.1;have h3:=hh.2.2;rw[aR]at h2 h3 ⊢;simp[List.all_append,h1,h2,h3]
    refine .seq (.cond (t:=true) (by simp[St.ev,Av.get];omega) (.skip ?_));simp only[ai];refine .nO (p v=false) [(8,.int .i64 (i:Int)),(7,.int .i64 es.length),(1,.func (.func g) fs cs),(0,.vsl 3 x es)] [] (x:=Code.block 1 _) ?_ ?_
    · refine .block (.seq (.region [] (by decide) ?_))
      simp only[al,gdA,ae,aa,ah,an,evalOp,St.ev,Av.get,St.put,ai,Nat.reduceEqDiff,↓reduceIte];refine .seq (.region [.pure (.ret (.bool (p v)))] (by decide) ?_);simp only[al,gdA,ae,aa,ah,an,evalOp,St.ev,Av.get,St.put,ai,Nat.reduceEqDiff,↓reduceIte,aG,List.map_cons,List.map_nil,Option.map_some,hia,hld,List.append_assoc,hhf];refine⟨by have:=hp v hmem;rw[List.append_assoc]at this;exact this,?_⟩;cases hpv:p v with
      | true=>
        refine .cond (t:=true) rfl (.seq (.region [] (by decide) ?_));simp only[al,gdA,ae,aa,ah,an,evalOp,St.ev,Av.get,St.put,ai,Nat.reduceEqDiff,↓reduceIte];refine .ret ?_;rw[if_pos hpv]at hall;rw[←hall];exact⟨_,rfl,_,rfl,.refl _⟩
      | false=>
        refine .cond (t:=false) rfl (.skip ?_);refine⟨rfl,?_,rfl,rfl⟩;simp[aC,Av.get]
    · intro hgood
      rw[hgood]at hall;simp only[Bool.false_eq_true,if_false]at hall;refine .region [] (by decide) ?_;have hadd:aH Tryz.prog .add 3 (.int .i64 (i:Int)) (.int .i64 1)=some (.int .i64 ((i+1:Nat):Int)):=by
        rw[dc _ _ (by simp only[ay]at hb;omega)];simp
      simp only[al,gdA,ae,aa,ah,an,evalOp,St.ev,Av.get,St.put,ofV,ai,↓reduceIte,hadd];refine⟨i+1,⟨by omega,hall⟩,by omega,?_,trivial,trivial⟩;simp[aC,Av.get]
  · have hi':i=es.length:=by omega
    subst hi';refine .seq (.cond (t:=false) (by simp[St.ev,Av.get]) (.exit ?_));simp only[ai,↓reduceIte,aO];refine .seq (.region [] (by decide) ?_);have ht:fI p 0 es= -1:=by rw[←hall,List.drop_length];rfl
    rw[ht];simp only[al,gdA,ae,aa,ah,an,evalOp,St.ev,St.put,ofV,ai];exact .ret ⟨_,rfl,_,rfl,.refl _⟩
theorem cfR (x:Bool) (es:List AV) (g:FuncId) (fs cs:List AV) (p:AV→Bool) (hs: ∀v∈es,shp 3 v) (hh:AV.hfs es=true∧AV.hfs fs=true∧AV.hfs cs=true)
    (hp: ∀v∈es,ad Tryz.prog g (fs++[v]++cs) (.ret (.bool (p v)))):ad Tryz.prog 194 [.vsl 3 x es,.func (.func g) fs cs] (.ret (.bool (es.any p))):=by
  refine ad.of Tryz.func194 rfl (ab enters Tryz.func194 rfl) (by simp[Tryz.ntmps194]) ?_;show W Tryz.prog 9 _ none _ _ _;refine .seq (.region [] (by decide) ?_);simp only[al,gdA,ae,aa,ah,an,evalOp,St.ev,St.put,aL,ofV,ai];refine .seq (.region [.pure (.ret (.int .i64 (fI p 0 es)))] (by decide) ?_);obtain⟨h1,h2,h3⟩:=hh;simp only[al,gdA,ae,aa,ah,an,evalOp,St.ev,Av.get,St.put,ofV,ai,Nat.reduceEqDiff,↓reduceIte,aG,AV.hfs,AV.hf,Bool.and_self,List.map_cons,List.map_nil,List.nil_append,List.append_nil,h1,h2,h3,cB,og];refine⟨Mt x es g fs cs p hs ⟨h1,h2,h3⟩ hp,?_⟩;exact .ret ⟨_,rfl,_,rfl,.refl _⟩
theorem Mu(v:AV)(hsh:shp 3 v)(g:FuncId)(fs cs:List AV)(p:Bool)(hv:AV.hf v=true)(h1:AV.hfs fs=true)(h2:AV.hfs cs=true)(hp:ad Tryz.prog g (fs++[v]++cs) (.ret (.bool p))):
    ad Tryz.prog 195 [v,.vptr [.func (.func g) fs cs]] (.ret (.bool !p)):=by
  skip
  refine ad.of Tryz.func195 rfl (ab enters Tryz.func195 rfl) (by simp[Tryz.ntmps195]) ?_;show W Tryz.prog 8 _ none _ _ _;have hz:tsz Tryz.prog 197=some 1:=by kernel_rfl
  have hg:tag Tryz.prog 197=some false:=by kernel_rfl
  have hld: ∀H,ao Tryz.prog 197 (.vptr [.func (.func g) fs cs]) H=some (.func (.func g) fs cs):=by intro H;simp[ao,hz,hg,ldA]
  have hhf:AV.hfs (fs++([v]++cs))=true:=by
    rw[aR]at h1 h2 ⊢;simp[List.all_append,h1,h2,hv]
  obtain⟨l,rfl,hl'⟩:=hsh;have hl:l.length=2:=hl';have hz2:tsz Tryz.prog 159=some 2:=by kernel_rfl
  have hg2:tag Tryz.prog 159=some true:=by kernel_rfl
  have hld2:ao Tryz.prog 159 (.ptr 0 0) [.cells l false]=some (.agg l):=by
    simp[ao,hz2,hg2,ldA,hl];exact List.take_of_length_le (by rw[hl];exact Nat.le_refl 2)
  refine .seq (.region [] (by decide) ?_);simp only[al,gdA,ae,aa,ah,an,evalOp,St.ev,Av.get,St.put,aL,ofV,ai,↓reduceIte,List.nil_append,AV.told,AV.cells,List.length_nil];refine .seq (.region [.pure (.ret (.bool p))] (by decide) ?_);simp only[al,gdA,ae,aa,ah,an,evalOp,St.ev,Av.get,St.put,ai,Nat.reduceEqDiff,↓reduceIte,aG,List.map_cons,List.map_nil,Option.map_some,hld,hld2,List.append_assoc,hhf,cZ];refine⟨by rw[List.append_assoc]at hp;exact hp,?_⟩;exact .ret ⟨_,rfl,_,rfl,.refl _⟩
theorem HB (x:Bool) (es:List AV) (g:FuncId) (fs cs:List AV) (p:AV→Bool) (hs: ∀v∈es,shp 3 v) (hh:AV.hfs es=true∧AV.hfs fs=true∧AV.hfs cs=true)
    (hp: ∀v∈es,ad Tryz.prog g (fs++[v]++cs) (.ret (.bool (p v)))):ad Tryz.prog 169 [.vsl 3 x es,.func (.func g) fs cs] (.ret (.bool (es.all p))):=by
  obtain⟨h0,h1,h2⟩:=hh;refine ad.of Tryz.func169 rfl (ab enters Tryz.func169 rfl) (by simp[Tryz.ntmps169]) ?_;show W Tryz.prog 9 _ none _ _ _;refine .seq (.region [] (by decide) ?_);simp only[al,gdA,ae,aa,ah,an,evalOp,St.ev,Av.get,St.put,aL,ofV,ai,Nat.reduceEqDiff,↓reduceIte,List.nil_append,AV.told,AV.cells,List.length_nil];have hl:=jq (g:=g) (fs:=fs) (cs:=cs) (es:=es) (h:=195) (b:=false) (x:=x) (wd:=3) (o:=es.any fun v=> !p v) h0 h1 h2;refine .seq (.region [.pure (.ret (.bool (es.any fun v=> !p v)))] (by decide) ?_)
  simp only[al,gdA,ae,aa,ah,an,evalOp,St.ev,Av.get,St.put,ai,Nat.reduceEqDiff,↓reduceIte,List.map_cons,List.map_nil,List.nil_append,List.append_nil,Option.map_some,hl,cZ];refine⟨cfR x es 195 [] [.vptr [.func (.func g) fs cs]] (fun v=> !p v) hs ⟨h0,rfl,by simp[AV.hfs,AV.hf,h1,h2]⟩ (fun v hv=>Mu v (hs v hv) g fs cs (p v) ?_ h1 h2 (hp v hv)),?_⟩
  · rw[aR]at h0;exact List.all_eq_true.1 h0 v hv
  · refine .ret ⟨_,rfl,_,rfl,?_⟩
    have:(!es.any fun v=> !p v)=es.all p:=by
      rw[List.any_eq_not_all_not];simp
    rw[this];exact .refl _
set_option maxRecDepth 100000 in
theorem part(t v:Bytes):ad Tryz.prog 167 [.agg [.str t,.str v]] (.ret (.bool (eh t&&(small t==t)&&decide ((v.length:Int)≥1)&&decide ((v.length:Int)≤200)))):=by
 refine ad.of Tryz.func167 rfl (ab enters Tryz.func167 rfl) (by simp[Tryz.ntmps167]) ?_;show W Tryz.prog 26 _ none _ _ _;refine .seq (.region [] (by decide) ?_);simp only[al,gdA,ae,aa,ah,an,evalOp,St.ev,Av.get,St.put,aL,ofV,ai,↓reduceIte,List.nil_append,AV.told,AV.cells,List.length_nil];have l0:ao Tryz.prog 9 (.ptr 0 0) [.cells [.str t,.str v] false]=some (.str t):=by simp[ld9,ldC]
 have l1:ao Tryz.prog 9 (.ptr 0 1) [.cells [.str t,.str v] false]=some (.str v):=by simp[ld9,ldC]
 have p1:=J5 t;have p2:=ic t;generalize hb1:eh t=b1;generalize hb2:(small t==t)=b2;generalize hb3:decide ((v.length:Int)≥1)=b3;generalize hb4:decide ((v.length:Int)≤200)=b4;rw[hb1]at p1;cases b1 with
 |false=>
  refine .seq (.wz [.pure (.ret (.bool false))] mixed (by kernel_rfl) (by kernel_rfl) (by kernel_rfl) ?_);simp only[EDf,gdA,ae,aa,evalOp,St.ev,Av.get,St.put,ofV,ai,Nat.reduceEqDiff,↓reduceIte,aG,AV.hfs,AV.hf,Bool.and_self,List.map_cons,List.map_nil,List.nil_append,List.append_nil,List.getElem?_cons_zero,List.getElem?_cons_succ,List.getElem?_toArray,Option.map_some,Option.bind_some,beq_true,Bool.false_eq_true,aU,rb,l0,l1,Nat.add_zero];refine⟨p1,?_⟩;exact .ret ⟨_,rfl,_,rfl,.refl _⟩
 |true=>
  refine .seq (.wz [.pure (.ret (.bool true)),.pure (.ret (.str (small t)))] mixed (by kernel_rfl) (by kernel_rfl) (by kernel_rfl) ?_);cases b2<;>cases b3<;>cases b4<;>simp only[EDf,deN,gdA,ae,aa,evalOp,St.ev,Av.get,St.put,ofV,ai,Nat.reduceEqDiff,↓reduceIte,aG,AV.hfs,AV.hf,Bool.and_self,List.map_cons,List.map_nil,List.nil_append,List.append_nil,List.getElem?_cons_zero,List.getElem?_cons_succ,List.getElem?_toArray,Option.map_some,Option.bind_some,beq_true,Bool.false_eq_true,aU,cond_true,rb,wB,Nat.add_zero,Nat.zero_add,l0,l1,nQ,hb2,cB,ec,hb3,hb4,ls9]<;>exact⟨p1,p2,.ret ⟨_,rfl,_,rfl,.refl _⟩⟩
def oi(t v:Bytes):Bool:=eh t&&(small t==t)&&decide ((v.length:Int)≥1)&&decide ((v.length:Int)≤200)
def aD(r:Bytes×Bytes):AV:=.agg [.str r.1,.str r.2]
def pA:AV→Bool
 | .agg [.str t,.str v]=>oi t v
 |_=>false
def jQ(d:List (Bytes×Bytes)):Bool:=!decide ((d.length:Int)>16)&&d.all fun r=>oi r.1 r.2
theorem aB(d:List (Bytes×Bytes)):AV.hfs (d.map aD)=true:=by
 rw[aR,List.all_eq_true];intro v hv;obtain⟨r,_,rfl⟩:=List.mem_map.1 hv;rfl
theorem eP(m:Nat)(d:List (Bytes×Bytes)):AV.bf m (d.map aD)=true:=by
 rw[dZ,List.all_eq_true];intro v hv;obtain⟨r,_,rfl⟩:=List.mem_map.1 hv;rfl
theorem tq(d:List (Bytes×Bytes)):∀v∈d.map aD,shp 3 v:=by
 intro v hv;obtain⟨r,_,rfl⟩:=List.mem_map.1 hv;exact⟨_,rfl,rfl⟩
theorem Bj(d:List (Bytes×Bytes)):(d.map aD).all pA=d.all fun r=>oi r.1 r.2:=by
 rw[List.all_map];rfl
theorem HC(x:Bool)(d:List (Bytes×Bytes)):ad Tryz.prog 132 [.vsl 3 x (d.map aD)] (.ret (.int .i64 (if jQ d=true then 0 else 2))):=by
 refine ad.of Tryz.func132 rfl (ab enters Tryz.func132 rfl) (by simp[Tryz.ntmps132]) ?_;show W Tryz.prog 13 _ none _ _ _;refine .seq (.region [] (by decide) ?_);simp only[al,gdA,ae,aa,ah,an,evalOp,St.ev,St.put,aL,ofV,ai];refine .seq (.region [] (by decide) ?_);simp only[al,gdA,ae,aa,ah,an,evalOp,St.ev,St.put,ai];have hln:∀H,aI Tryz.prog 161 (.vsl 3 x (d.map aD)) H=some (.int .i64 d.length):=by intro H;simp[FH]
 have hp:=HB x (d.map aD) 167 [] [] pA (tq d) ⟨aB d,rfl,rfl⟩ (by
  intro v hv;obtain⟨r,_,rfl⟩:=List.mem_map.1 hv;exact part r.1 r.2)
 rw[Bj]at hp;have hh:=aB d;have hc:jQ d=(!decide ((d.length:Int)>16)&&d.all fun r=>oi r.1 r.2):=rfl;rw[hc];generalize h1:decide ((d.length:Int)>16)=b1;generalize h2:(d.all fun r=>oi r.1 r.2)=b2;rw[h2]at hp;cases b1 with
 |true=>
  refine .seq (.seq (.region [] (by decide) ?_));simp only[al,deN,gdA,ae,aa,ah,an,evalOp,St.ev,Av.get,St.put,ofV,ai,Nat.reduceEqDiff,↓reduceIte,List.getElem?_cons_zero,List.getElem?_cons_succ,List.getElem?_toArray,Option.map_some,Option.bind_some,beq_false,Bool.not_true,aU,hln,iq,h1];refine .cond (t:=true) rfl (.seq (.region [] (by decide) ?_));simp only[al,gdA,ae,aa,ah,an,evalOp,St.ev,St.put,ofV,ai];exact .ret ⟨_,rfl,_,rfl,.refl _⟩
 | false=>
  refine .seq (.seq (.region [.pure (.ret (.bool b2))] (by decide) ?_));simp only[al,deN,gdA,ae,aa,ah,an,evalOp,St.ev,Av.get,St.put,ofV,ai,Nat.reduceEqDiff,↓reduceIte,aG,AV.hfs,AV.hf,Bool.and_self,List.map_cons,List.map_nil,List.nil_append,List.append_nil,List.getElem?_cons_zero,List.getElem?_cons_succ,List.getElem?_toArray,Option.map_some,Option.bind_some,beq_false,Bool.not_false,aU,cond_false,hln,iq,h1,hh,cZ];refine⟨hp,?_⟩;cases b2 with
  |false=>
   refine .cond (t:=true) rfl (.seq (.region [] (by decide) ?_));simp only[al,gdA,ae,aa,ah,an,evalOp,St.ev,St.put,ofV,ai,Bool.not_false];exact .ret ⟨_,rfl,_,rfl,.refl _⟩
  |true=>
   refine .cond (t:=false) rfl (.skip ?_);simp only[ai,↓reduceIte,Bool.and_self,Bool.not_true];refine .seq (.region [] (by decide) ?_);simp only[al,gdA,ae,aa,ah,an,evalOp,St.ev,St.put,ofV,ai];exact .ret ⟨_,rfl,_,rfl,.refl _⟩
theorem bdR(t:Bytes):bW Tryz.prog 159 [(0,.str t),(1,.str [120])]=some (.agg [.str t,.str [120]]):=by kernel_rfl
theorem bsR(v:AV)(h:shp 3 v):au Tryz.prog 161 1 [(0,v)]=some (.vsl 3 true [v]):=by
 obtain⟨l,rfl,hl'⟩:=h;have hl:l.length=2:=hl';simp[au,Tryz.underlying161,Jt,AV.cells,hl,AV.told,List.range']
def cQ(s:Bytes):Bool:=jQ [(small s,[120])]
theorem tu(s:Bytes):ad Tryz.prog 90 [.str s] (.ret (.bool (cQ s))):=by
 refine ad.of Tryz.func90 rfl (ab enters Tryz.func90 rfl) (by simp[Tryz.ntmps90]) ?_;show W Tryz.prog 9 _ none _ _ _;refine .seq (.region [] (by decide) ?_);simp only[al,gdA,ae,aa,ah,an,evalOp,St.ev,St.put,aL,ofV,ai];have hp:=HC true [(small s,[120])];have hs:=ic s;have hb:au Tryz.prog 161 1 [(0,.agg [.str (small s),.str [120]])]=some (.vsl 3 true [.agg [.str (small s),.str [120]]]):=bsR _ ⟨_,rfl,rfl⟩;have hm:1≤ay:=by decide
 have hc:cQ s=jQ [(small s,[120])]:=rfl;rw[hc];generalize jQ [(small s,[120])]=b at hp;refine .seq (.region [.pure (.ret (.str (small s))),.pure (.ret (.int .i64 (if b=true then 0 else 2)))] (by decide) ?_);have x1:({data:=#[120]}:ByteArray).size≤ay:=by decide
 have x2:AV.hf (.vsl 3 true [.agg [.str (small s),.str [120]]])=true:=rfl;have x3:(((if b=true then 0 else 2:Int))==0)=b:=by cases b<;>rfl
 simp only[al,gdA,ae,aa,ah,an,evalOp,St.ev,Av.get,St.put,ofV,ai,Nat.reduceEqDiff,↓reduceIte,aG,AV.hfs,AV.hf,Bool.and_self,List.map_cons,List.map_nil,List.nil_append,List.append_nil,Option.map_some,bdR,hb,dv,x1,x2,x3];exact⟨hs,hp,.ret ⟨_,rfl,_,rfl,.refl _⟩⟩
/-! ### Bytes of values -/
def byP(x:UInt8):Bool:=decide ((x.toNat:Int)≥32)&&((x.toNat:Int) !=34)
def byL(x:UInt8):Bool:=decide ((x.toNat:Int)≥32)||((x.toNat:Int)==9)
def unb(p:UInt8→Bool):AV→Bool
 | .int .u8 x=>p x.toNat.toUInt8
 |_=>false
theorem oj(p:UInt8→Bool)(x:UInt8):unb p (aS x)=p x:=by simp[unb,aS]
theorem xf(p:UInt8→Bool)(s:Bytes):(av s).all (unb p)=s.all p:=by
 simp only[av,List.all_map];congr 1;funext x;exact oj p x
theorem jR(s:Bytes):AV.hfs (av s)=true:=by
 rw[aR,List.all_eq_true];intro v hv;obtain⟨r,_,rfl⟩:=List.mem_map.1 hv;rfl
theorem jS(s:Bytes):∀v∈av s,shp 0 v:=by
 intro v hv;obtain⟨r,_,rfl⟩:=List.mem_map.1 hv;rfl
theorem HD(x:UInt8):ad Tryz.prog 135 [aS x] (.ret (.bool (byP x))):=by
 refine ad.of Tryz.func135 rfl (ab enters Tryz.func135 rfl) (by simp[Tryz.ntmps135]) ?_;show W Tryz.prog 9 _ none _ _ _;unfold byP aS;generalize h1:decide ((x.toNat:Int)≥32)=b1;generalize h2:((x.toNat:Int) !=34)=b2;refine .seq (.region [] (by decide) ?_);simp only[al,gdA,ae,aa,ah,an,evalOp,St.ev,St.put,aL,ofV,ai];refine .seq (.region [] (by decide) ?_)
 cases b1<;>cases b2<;>simp only[al,gdA,ae,aa,ah,an,evalOp,St.ev,Av.get,St.put,ofV,ai,Nat.reduceEqDiff,↓reduceIte,Bool.and_self,List.getElem?_cons_zero,List.getElem?_cons_succ,List.getElem?_toArray,Option.bind_some,beq_true,Bool.false_eq_true,aU,cond_true,cB,ir,h1,h2]<;>exact .ret ⟨_,rfl,_,rfl,.refl _⟩
theorem Ka(x:UInt8):ad Tryz.prog 94 [aS x] (.ret (.bool (byL x))):=by
 refine ad.of Tryz.func94 rfl (ab enters Tryz.func94 rfl) (by simp[Tryz.ntmps94]) ?_;show W Tryz.prog 9 _ none _ _ _;unfold byL aS;generalize h1:decide ((x.toNat:Int)≥32)=b1;generalize h2:((x.toNat:Int)==9)=b2;refine .seq (.region [] (by decide) ?_);simp only[al,gdA,ae,aa,ah,an,evalOp,St.ev,St.put,aL,ofV,ai];refine .seq (.region [] (by decide) ?_)
 cases b1<;>cases b2<;>simp only[al,gdA,ae,aa,ah,an,evalOp,St.ev,Av.get,St.put,ofV,ai,Nat.reduceEqDiff,↓reduceIte,List.getElem?_cons_zero,List.getElem?_cons_succ,List.getElem?_toArray,Option.bind_some,beq_false,Bool.not_true,Bool.not_false,aU,cond_false,cB,dv,h1,h2]<;>exact .ret ⟨_,rfl,_,rfl,.refl _⟩
def version(s:Bytes):Bool:=s==[51,46,48]||s==[52,46,48]
theorem tv(s:Bytes):ad Tryz.prog 45 [.str s] (.ret (.bool (version s))):=by
 refine ad.of Tryz.func45 rfl (ab enters Tryz.func45 rfl) (by simp[Tryz.ntmps45]) ?_;show W Tryz.prog 9 _ none _ _ _;unfold version;generalize h1:(s==[51,46,48])=b1;generalize h2:(s==[52,46,48])=b2;have x1:({data:=#[51,46,48]}:ByteArray).size≤ay:=by decide
 have x2:({data:=#[52,46,48]}:ByteArray).size≤ay:=by decide
 refine .seq (.region [] (by decide) ?_);simp only[al,gdA,ae,aa,ah,an,evalOp,St.ev,St.put,aL,ofV,ai];refine .seq (.region [] (by decide) ?_);cases b1<;>cases b2<;>simp only[al,gdA,ae,aa,ah,an,evalOp,St.ev,Av.get,St.put,ofV,ai,Nat.reduceEqDiff,↓reduceIte,List.getElem?_cons_zero,List.getElem?_cons_succ,List.getElem?_toArray,Option.bind_some,beq_false,Bool.not_true,Bool.not_false,aU,cond_false,nQ,x1,x2,h1,h2]<;>exact .ret ⟨_,rfl,_,rfl,.refl _⟩
theorem HE(s:Bytes):ad Tryz.prog 93 [.vsl 0 false (av s),.func (.func 135) [] []] (.ret (.bool (s.all byP))):=by
 have:=Bi false (av s) 135 [] [] (unb byP) (jS s) ⟨jR s,rfl,rfl⟩ (by
  intro v hv;obtain⟨r,_,rfl⟩:=List.mem_map.1 hv;rw[oj];exact HD r)
 rwa[xf]at this
theorem HF(s:Bytes):ad Tryz.prog 93 [.vsl 0 false (av s),.func (.func 94) [] []] (.ret (.bool (s.all byL))):=by
 have:=Bi false (av s) 94 [] [] (unb byL) (jS s) ⟨jR s,rfl,rfl⟩ (by
  intro v hv;obtain⟨r,_,rfl⟩:=List.mem_map.1 hv;rw[oj];exact Ka r)
 rwa[xf]at this
theorem Bk{H:List OB}{i:Nat}{s:Bytes}{b:Bool}(h:H[i]? =some (.cells (av s) b))(k:Nat):fz H (k+1) (.sl i 0 s.length 0)=some (.vsl 0 false (av s)):=by
 have hl:(av s).length=s.length:=cK s;have h1:(av s).all AV.one=true:=by rw[List.all_eq_true];intro v hv;exact jS s v hv
 have h2:((av s).drop 0).take (s.length*esz 0)=av s:=by rw[List.drop_zero];exact List.take_of_length_le (by simp[esz,hl])
 unfold fz;rw[if_neg (by simp[AV.hf])];simp only[h,h2,jR,h1,if_true,Option.bind_some];rw[if_pos (by simp[esz,hl])]
theorem om{H:List OB}{i:Nat}{s:Bytes}{b o:Bool}{g:Nat}(h:H[i]? =some (.cells (av s) b)):
    aG H [.sl i 0 s.length 0,.func (.func g) [] []] (.ret (.bool o))=some [.vsl 0 false (av s),.func (.func g) [] []]:=by
  unfold aG;rw[if_neg (by simp[AV.hfs,AV.hf]),if_pos (show(Out.ret (AV.bool o)).scalar=true from rfl)];have h2:fz H 20 (.func (.func g) [] [])=some (.func (.func g) [] []):=by unfold fz;rw[if_pos (by simp[AV.hf,AV.hfs])]
  simp only[List.mapM_cons,List.mapM_nil,Bk h,h2];rfl
def dS(p:Bytes×Bytes):Bool:=cQ p.1&&decide ((p.2.length:Int)≤100)&&p.2.all byP
theorem HG(p:Bytes×Bytes):ad Tryz.prog 92 [aD p] (.ret (.bool (dS p))):=by
 refine ad.of Tryz.func92 rfl (ab enters Tryz.func92 rfl) (by simp[Tryz.ntmps92]) ?_;show W Tryz.prog 18 _ none _ _ _;unfold dS aD;obtain⟨n,v⟩:=p;have p1:=tu n;have p2:=HE v;generalize cQ n=b1 at p1;generalize h2:decide ((v.length:Int)≤100)=b2;generalize v.all byP=b3 at p2;refine .seq (.region [] (by decide) ?_);simp only[al,gdA,ae,aa,ah,an,evalOp,St.ev,Av.get,St.put,aL,ofV,ai,↓reduceIte,List.nil_append,AV.cells,List.length_nil,AV.told];have l0:∀H,ao Tryz.prog 9 (.ptr 0 0) (.cells [.str n,.str v] false::H)=some (.str n):=by intro H;simp[ld9,ldC]
 have l1:∀H,ao Tryz.prog 9 (.ptr 0 1) (.cells [.str n,.str v] false::H)=some (.str v):=by intro H;simp[ld9,ldC]
 have cv:∀b,bx Tryz.prog 9 108 (.str v) [.cells [.str n,.str v] b]=some (.sl 1 0 v.length 0,[.cells [.str n,.str v] b,.cells (av v) true]):=by
  intro b;simp[bx,Tryz.underlying9,Tryz.underlying108,Tryz.underlying5]
 cases b1 with
 |false=>
  refine .seq (.region [.pure (.ret (.bool false))] (by decide) ?_);simp only[al,gdA,ae,aa,ah,an,evalOp,St.ev,Av.get,St.put,ofV,ai,Nat.reduceEqDiff,↓reduceIte,aG,AV.hfs,AV.hf,Bool.and_self,List.map_cons,List.map_nil,List.nil_append,List.append_nil,List.getElem?_cons_zero,List.getElem?_cons_succ,List.getElem?_toArray,Option.map_some,Option.bind_some,beq_true,Bool.false_eq_true,aU,ra,Nat.add_zero,l0];exact⟨p1,.ret ⟨_,rfl,_,rfl,.refl _⟩⟩
 | true=>
  cases b2 with
  |false=>
   refine .seq (.region [.pure (.ret (.bool true))] (by decide) ?_);simp only[al,deN,gdA,ae,aa,ah,an,evalOp,St.ev,Av.get,St.put,ofV,ai,Nat.reduceEqDiff,↓reduceIte,aG,AV.hfs,AV.hf,Bool.and_self,List.map_cons,List.map_nil,List.nil_append,List.append_nil,List.getElem?_cons_zero,List.getElem?_cons_succ,List.getElem?_toArray,Option.map_some,Option.bind_some,beq_true,Bool.false_eq_true,aU,cond_true,ra,ve,Nat.add_zero,Nat.zero_add,l0,l1,ls9,ec,h2];exact⟨p1,.ret ⟨_,rfl,_,rfl,.refl _⟩⟩
  |true=>
   refine .seq (.region [.pure (.ret (.bool true)),.pure (.ret (.bool b3))] (by decide) ?_);have hl:aG [.cells [.str n,.str v] false,.cells (av v) true] [.sl 1 0 v.length 0,.func (.func 135) [] []] (.ret (.bool b3))=some [.vsl 0 false (av v),.func (.func 135) [] []]:=om rfl
   simp only[al,deN,gdA,ae,aa,ah,an,evalOp,St.ev,Av.get,St.put,ofV,ai,Nat.reduceEqDiff,↓reduceIte,Bool.and_self,List.map_cons,List.map_nil,List.nil_append,List.append_nil,List.getElem?_cons_zero,List.getElem?_cons_succ,List.getElem?_toArray,Option.map_some,Option.bind_some,beq_true,aU,cond_true,ra,ve,Nat.add_zero,Nat.zero_add,l0,l1,ls9,ec,h2,cv,hl];exact⟨p1,p2,.ret ⟨_,rfl,_,rfl,.refl _⟩⟩
section
variable{P:Program} {n m:Nat} {R:Option Nat} {Q:Ex→St→Prop} {a:St}
def RW(P:Program)(n m:Nat)(R:Option Nat)(ops:Array Oper)(Q:Ex→St→Prop)(l:List Oper)(a:St):Prop:=
 ∀k,(∀i o,l[i]? =some o→ops[k+i]? =some o)→∀(B:Bs m) (act:Act) (w:World),Rel n B a act w→wpOpsIn (fnc R) 1 P ops (dX n B Q) (List.range' k l.length) act w
theorem RW.start{id:Nat}{ops ops0:Array Oper}(he:ops0=ops)(h:RW P n m R ops0 Q ops.toList a):W P n m R (.region id ops false) Q a:=by
 subst he;intro B act w r;refine wpIn_region ?_;have:=h 0 (fun i o hi=>by rw[Nat.zero_add,←Array.getElem?_toList];exact hi) B act w r;rw[Array.length_toList,←List.range_eq_range']at this;exact this
theorem RW.bG{ops:Array Oper}{l:List Oper}(C:List (Nat×AV))(hT:aC a.T C)(h:RW P n m R ops Q l ⟨C,a.H,a.D⟩):RW P n m R ops Q l a:=
 fun k hk B act w r=>h k hk B act w (r.bG (b:=⟨C,a.H,a.D⟩) hT rfl rfl)
theorem RW.done{ops:Array Oper}(h:Q .normal a):RW P n m R ops Q [] a:=
 fun k hk B act w ⟨F,μ,s,y,t⟩=>⟨_,a,F,μ,h,.normal,s,y,t⟩
end
structure Ln where
 g:Bytes
 n:Bytes
 x:Bool
 ps:List (Bytes×Bytes)
 v:Bytes
def aw(l:Ln):AV:=.agg [.str l.g,.str l.n,.vsl 3 l.x (l.ps.map aD),.str l.v]
def iO:Bytes:=[98,101,103,105,110]
def vy:Bytes:=[101,110,100]
def bP:Bytes:=[118,101,114,115,105,111,110]
def bU(l:Ln):Bool:=
 (l.g==[]||cQ l.g)&&(cQ (small l.n)&&(!(small l.n==iO)&&(!(small l.n==vy)&&(!(small l.n==bP)&&(decide ((l.ps.length:Int)≤8)&&(l.ps.all dS&&(decide ((l.v.length:Int)≤4000)&&l.v.all byL)))))))
def pP:AV→Bool
 | .agg [.str t,.str v]=>dS (t,v)
 |_=>false
theorem Kb(x:Bool)(ps:List (Bytes×Bytes)):ad Tryz.prog 91 [.vsl 3 x (ps.map aD),.func (.func 92) [] []] (.ret (.bool (ps.all dS))):=by
 have:=Hz x (ps.map aD) 92 [] [] pP (tq ps) ⟨aB ps,rfl,rfl⟩ (by
  intro v hv;obtain⟨r,_,rfl⟩:=List.mem_map.1 hv;exact HG r)
 rw[List.all_map]at this;exact this
set_option maxRecDepth 8000 in
set_option maxHeartbeats 1000000 in
theorem F6 (l:Ln):ad Tryz.prog 47 [aw l] (.ret (.bool (bU l))):=by
 obtain⟨g,n,x,ps,v⟩:=l;have ps0:=ic n;have p1:=tu g;have p2:=tu (small n);have p7:=Kb x ps;have p9:=HF v;have hcv:∀b:OB,bx Tryz.prog 9 108 (.str v) [b]=some (.sl 1 0 v.length 0,[b,.cells (av v) true]):=by
  intro b;simp[bx,Tryz.underlying9,Tryz.underlying108,Tryz.underlying5]
 have hld:∀(b:OB) (o:Bool),aG [b,.cells (av v) true] [.sl 1 0 v.length 0,.func (.func 94) [] []] (.ret (.bool o))=some [.vsl 0 false (av v),.func (.func 94) [] []]:=fun b o=>om rfl;have e0:bU ⟨g,n,x,ps,v⟩=((g==[]||cQ g)&&(cQ (small n)&&(!(small n==iO)&&(!(small n==vy)&&(!(small n==bP)&&(decide ((ps.length:Int)≤8)&&(ps.all dS&&(decide ((v.length:Int)≤4000)&&v.all byL)))))))):=rfl;simp only[iO,vy,bP]at e0;rw[e0];generalize cQ g=b1 at*;generalize cQ (small n)=b2 at*;generalize ps.all dS=b7 at*;generalize v.all byL=b9 at*;generalize h0:(g==[])=c0;generalize h3:(small n==[98,101,103,105,110])=b3
 generalize h4:(small n==[101,110,100])=b4;generalize h5:(small n==[118,101,114,115,105,111,110])=b5;simp only[aw];refine ad.of Tryz.func47 rfl (ab enters Tryz.func47 rfl) (by simp[Tryz.ntmps47]) ?_;show W Tryz.prog 54 0 none _ _ _;refine W.vc (by decide) ?_;cases c0 with
 | true=>
  cases b2 with
  |false=>
   repeat'(first|(simp(disch:=first|omega|(simp only[zL];omega))only[go_sem,seval,h0,bne])|((with_reducible first|apply aj.pure|apply ar.pure);(with_reducible first|exact ps0|exact p2);(first|rfl|simp only[go_sem,aB])))
   exact⟨_,rfl,_,rfl,.refl _⟩
  | true=>
   cases b3 with
   |true=>
    repeat'(first|(simp(disch:=first|omega|(simp only[zL];omega))only[go_sem,seval,h0,bne,h3])|((with_reducible first|apply aj.pure|apply ar.pure);(with_reducible first|exact ps0|exact p2);(first|rfl|simp only[go_sem,aB])))
    exact⟨_,rfl,_,rfl,.refl _⟩
   | false=>
    cases b4 with
    |true=>
     repeat'(first|(simp(disch:=first|omega|(simp only[zL];omega))only[go_sem,seval,h0,bne,h3,h4])|((with_reducible first|apply aj.pure|apply ar.pure);(with_reducible first|exact ps0|exact p2);(first|rfl|simp only[go_sem,aB])))
     exact⟨_,rfl,_,rfl,.refl _⟩
    | false=>
     cases b5 with
     |true=>
      repeat'(first|(simp(disch:=first|omega|(simp only[zL];omega))only[go_sem,seval,h0,bne,h3,h4,h5])|((with_reducible first|apply aj.pure|apply ar.pure);(with_reducible first|exact ps0|exact p2);(first|rfl|simp only[go_sem,aB])))
      exact⟨_,rfl,_,rfl,.refl _⟩
     | false=>
      by_cases h6:ps.length≤8
      case neg=>
       rw[decide_eq_false (show¬((ps.length:Int)≤8) by omega)]
       repeat'(first|(simp(disch:=first|omega|(simp only[zL];omega))only[go_sem,seval,h0,bne,h3,h4,h5])|((with_reducible first|apply aj.pure|apply ar.pure);(with_reducible first|exact ps0|exact p2);(first|rfl|simp only[go_sem,aB])))
       exact⟨_,rfl,_,rfl,.refl _⟩
      rw[decide_eq_true (show((ps.length:Int)≤8) by omega)];cases b7 with
      |false=>
       repeat'(first|(simp(disch:=first|omega|(simp only[zL];omega))only[go_sem,seval,h0,bne,h3,h4,h5])|((with_reducible first|apply aj.pure|apply ar.pure);(with_reducible first|exact ps0|exact p2|exact p7);(first|rfl|simp only[go_sem,aB])))
       exact⟨_,rfl,_,rfl,.refl _⟩
      | true=>
       by_cases h8:v.length≤4000
       case neg=>
        rw[decide_eq_false (show¬((v.length:Int)≤4000) by omega)]
        repeat'(first|(simp(disch:=first|omega|(simp only[zL];omega))only[go_sem,seval,h0,bne,h3,h4,h5])|((with_reducible first|apply aj.pure|apply ar.pure);(with_reducible first|exact ps0|exact p2|exact p7);(first|rfl|simp only[go_sem,aB])))
        exact⟨_,rfl,_,rfl,.refl _⟩
       rw[decide_eq_true (show((v.length:Int)≤4000) by omega)]
       repeat'(first|(simp(disch:=first|omega|(simp only[zL];omega))only[go_sem,seval,h0,bne,h3,h4,h5,hcv])|(guard_target=~ aj _ _ _ _ _ _ _;refine aj.aG _ p9 (hld _ _) ?_)|((with_reducible first|apply aj.pure|apply ar.pure);(with_reducible first|exact ps0|exact p2|exact p7);(first|rfl|simp only[go_sem,aB])))
       exact⟨_,rfl,_,rfl,.refl _⟩
 | false=>
  cases b1 with
  |false=>
   repeat'(first|(simp(disch:=first|omega|(simp only[zL];omega))only[go_sem,seval,h0,bne])|((with_reducible first|apply aj.pure|apply ar.pure);(with_reducible first|exact ps0|exact p1);(first|rfl|simp only[go_sem])))
   exact⟨_,rfl,_,rfl,.refl _⟩
  | true=>
   cases b2 with
   |false=>
    repeat'(first|(simp(disch:=first|omega|(simp only[zL];omega))only[go_sem,seval,h0,bne])|((with_reducible first|apply aj.pure|apply ar.pure);(with_reducible first|exact ps0|exact p1|exact p2);(first|rfl|simp only[go_sem,aB])))
    exact⟨_,rfl,_,rfl,.refl _⟩
   | true=>
    cases b3 with
    |true=>
     repeat'(first|(simp(disch:=first|omega|(simp only[zL];omega))only[go_sem,seval,h0,bne,h3])|((with_reducible first|apply aj.pure|apply ar.pure);(with_reducible first|exact ps0|exact p1|exact p2);(first|rfl|simp only[go_sem,aB])))
     exact⟨_,rfl,_,rfl,.refl _⟩
    | false=>
     cases b4 with
     |true=>
      repeat'(first|(simp(disch:=first|omega|(simp only[zL];omega))only[go_sem,seval,h0,bne,h3,h4])|((with_reducible first|apply aj.pure|apply ar.pure);(with_reducible first|exact ps0|exact p1|exact p2);(first|rfl|simp only[go_sem,aB])))
      exact⟨_,rfl,_,rfl,.refl _⟩
     | false=>
      cases b5 with
      |true=>
       repeat'(first|(simp(disch:=first|omega|(simp only[zL];omega))only[go_sem,seval,h0,bne,h3,h4,h5])|((with_reducible first|apply aj.pure|apply ar.pure);(with_reducible first|exact ps0|exact p1|exact p2);(first|rfl|simp only[go_sem,aB])))
       exact⟨_,rfl,_,rfl,.refl _⟩
      | false=>
       by_cases h6:ps.length≤8
       case neg=>
        rw[decide_eq_false (show¬((ps.length:Int)≤8) by omega)]
        repeat'(first|(simp(disch:=first|omega|(simp only[zL];omega))only[go_sem,seval,h0,bne,h3,h4,h5])|((with_reducible first|apply aj.pure|apply ar.pure);(with_reducible first|exact ps0|exact p1|exact p2);(first|rfl|simp only[go_sem,aB])))
        exact⟨_,rfl,_,rfl,.refl _⟩
       rw[decide_eq_true (show((ps.length:Int)≤8) by omega)];cases b7 with
       |false=>
        repeat'(first|(simp(disch:=first|omega|(simp only[zL];omega))only[go_sem,seval,h0,bne,h3,h4,h5])|((with_reducible first|apply aj.pure|apply ar.pure);(with_reducible first|exact ps0|exact p1|exact p2|exact p7);(first|rfl|simp only[go_sem,aB])))
        exact⟨_,rfl,_,rfl,.refl _⟩
       | true=>
        by_cases h8:v.length≤4000
        case neg=>
         rw[decide_eq_false (show¬((v.length:Int)≤4000) by omega)]
         repeat'(first|(simp(disch:=first|omega|(simp only[zL];omega))only[go_sem,seval,h0,bne,h3,h4,h5])|((with_reducible first|apply aj.pure|apply ar.pure);(with_reducible first|exact ps0|exact p1|exact p2|exact p7);(first|rfl|simp only[go_sem,aB])))
         exact⟨_,rfl,_,rfl,.refl _⟩
        rw[decide_eq_true (show((v.length:Int)≤4000) by omega)]
        repeat'(first|(simp(disch:=first|omega|(simp only[zL];omega))only[go_sem,seval,h0,bne,h3,h4,h5,hcv])|(guard_target=~ aj _ _ _ _ _ _ _;refine aj.aG _ p9 (hld _ _) ?_)|((with_reducible first|apply aj.pure|apply ar.pure);(with_reducible first|exact ps0|exact p1|exact p2|exact p7);(first|rfl|simp only[go_sem,aB])))
        exact⟨_,rfl,_,rfl,.refl _⟩
theorem Bl(t:Nat)(a b:Bytes)(h:a.length+b.length≤100000000):aH Tryz.prog .add t (.str a) (.str b)=some (.str (a++b)):=by
 simp only[aH];rw[if_pos (by simp only[ay];omega)]
def iP:Nat→Nat→Bytes→Bytes
 |0,_,s=>s
 |k+1,m,s=>if m<s.length then s.take m++([13,10,32]++iP k 74 (s.drop m))else s
def fold(s:Bytes):Bytes:=iP s.length 75 s
set_option maxRecDepth 8000 in
theorem Kc(s:Bytes)(hs:s.length≤1000000):ad Tryz.prog 95 [.str s] (.ret (.str (fold s))):=by
 refine ad.of Tryz.func95 rfl (ab enters Tryz.func95 rfl) (by simp[Tryz.ntmps95]) ?_;show W Tryz.prog 21 0 none _ _ _;refine .seq (.region [] (by decide) ?_);have x0:({data:=#[]}:ByteArray).size≤ay:=by decide
 have x3:({data:=#[13,10,32]}:ByteArray).size≤ay:=by decide
 simp only[al,gdA,ae,aa,ah,an,evalOp,St.ev,St.put,aL,ofV,ai];refine .seq (.region [] (by decide) ?_);simp only[al,gdA,ae,aa,ah,an,evalOp,St.ev,St.put,ofV,ai,↓reduceIte,x0];refine .seq (.block ?_)
 refine .bc (X:=Bytes×Nat×Bytes×Nat) (fun x=>[(3,.str x.1),(4,.int .i64 (x.2.1:Int)),(0,.str x.2.2.1)]) (fun _=>[])
  (fun x=>x.1++iP x.2.2.2 x.2.1 x.2.2.1=fold s∧x.2.2.1.length≤x.2.2.2∧74≤x.2.1∧x.1.length+2*x.2.2.1.length≤2*s.length) (fun x=>x.2.2.1.length) ([],75,s,s.length) ⟨rfl,Nat.le_refl _,by simp,by simp⟩
  (by simp[aC,Av.get]) rfl ?_
 rintro⟨out,m,s',k⟩ ⟨h1,h2,h3,h4⟩;simp only at h1 h2 h3 h4;refine .seq (.seq (.region [] (by decide) ?_));simp only[al,deN,gdA,ae,aa,ah,an,evalOp,St.ev,Av.get,St.put,ai,Nat.reduceEqDiff,↓reduceIte,Option.map_some,ls9,iq];by_cases h:m<s'.length
 ·refine .cond (t:=true) (by simp[St.ev,Av.get];omega) (.skip ?_)
  simp only[ai];have hcat:aH Tryz.prog .add 9 (.str out) (.str (s'.take m++[13,10,32]))=some (.str (out++(s'.take m++[13,10,32]))):=Bl _ _ _ (by simp;omega);have hcat0:aH Tryz.prog .add 9 (.str (s'.take m)) (.str [13,10,32])=some (.str (s'.take m++[13,10,32])):=Bl _ _ _ (by simp;omega);refine .block (.seq (.region [] (by decide) ?_));simp only[al,deN,gdA,ae,aa,ah,an,evalOp,St.ev,Av.get,St.put,ofV,ai,Nat.reduceEqDiff,↓reduceIte,Option.map_some,Option.map_none,List.drop_zero,ss9,gl .i64 m (Nat.le_of_lt h),Nat.sub_zero,x3,hcat0,hcat];refine .region [] (by decide) ?_
  have htk:(s'.drop m).take (s'.length - m)=s'.drop m:=List.take_of_length_le (by simp);simp only[al,deN,gdA,ae,aa,ah,an,evalOp,St.ev,Av.get,St.put,ofV,ai,Nat.reduceEqDiff,↓reduceIte,Option.map_some,Option.map_none,and_self,and_true,aO,ss9,bn .i64 m (Nat.le_of_lt h),htk];obtain⟨k',rfl⟩:∃k',k=k'+1:=⟨k - 1,by omega⟩
  refine⟨(out++(s'.take m++[13,10,32]),74,s'.drop m,k'),⟨?_,?_,?_,?_⟩,?_,⟨rfl,rfl,rfl,trivial⟩⟩
  ·simp only
   rw[←h1,iP,if_pos h];simp
  ·simp;omega
  ·simp
  ·simp;omega
  ·simp;omega
 ·refine .cond (t:=false) (by simp[St.ev,Av.get];omega) (.exit ?_)
  simp only[ai,↓reduceIte,aO];have he:iP k m s'=s':=by
   cases k with
   |zero=>rfl
   |succ k=>rw[iP,if_neg h]
  refine .seq (.region [] (by decide) ?_);have hcat:aH Tryz.prog .add 9 (.str out) (.str s')=some (.str (out++s')):=Bl _ _ _ (by omega);simp only[al,gdA,ae,aa,ah,an,evalOp,St.ev,Av.get,St.put,ai,Nat.reduceEqDiff,↓reduceIte,hcat];rw[←h1,he];exact .ret ⟨_,rfl,_,rfl,.refl _⟩
def cN(l:List Bytes):Bytes:=(l.map fun x=>x++[13,10]).flatten
theorem vz:cN []=[]:=rfl
theorem tw(l:List Bytes)(x:Bytes):cN (l++[x])=cN l++(x++[13,10]):=by simp[cN]
theorem mC{l:List Bytes}{i:Nat}{x:Bytes}(h:l[i]? =some x):cN (l.take (i+1))=cN (l.take i)++(x++[13,10]):=by
 rw[List.take_add_one,h];exact tw _ _
theorem qi:∀(l:List Bytes) (i:Nat),(cN (l.take i)).length≤(cN l).length
 | [],i=>by simp
 |x::l,0=>by simp[cN]
 |x::l,i+1=>by
  have:=qi l i;simp only[cN,List.take_succ_cons,List.map_cons,List.flatten_cons,List.length_append]at this ⊢;omega
set_option maxRecDepth 8000 in
theorem Et(x:Bool)(l:List Bytes)(hl:(cN l).length≤50000000):ad Tryz.prog 97 [.vsl 0 x (l.map .str)] (.ret (.str (cN l))):=by
 refine ad.fit fun hfit=>?_;have hL:l.length≤ay:=by have:(l.map AV.str).length≤ay:=hfit (.vsl 0 x (l.map .str)) (by simp);simpa using this
 refine ad.of Tryz.func97 rfl (ab enters Tryz.func97 rfl) (by simp[Tryz.ntmps97]) ?_;show W Tryz.prog 18 0 none _ _ _;have x0:({data:=#[]}:ByteArray).size≤ay:=by decide
 have x2:({data:=#[13,10]}:ByteArray).size≤ay:=by decide
 refine .seq (.region [] (by decide) ?_);simp only[al,gdA,ae,aa,ah,an,evalOp,St.ev,St.put,aL,ofV,ai];refine .seq (.region [] (by decide) ?_);simp only[al,gdA,ae,aa,ah,an,evalOp,St.ev,St.put,ofV,ai,↓reduceIte,x0];have hln:∀H,aI Tryz.prog 25 (.vsl 0 x (l.map .str)) H=some (.int .i64 l.length):=by intro H;simp[Gy]
 refine .seq (.seq (.region [] (by decide) ?_));simp only[al,deN,gdA,ae,aa,ah,an,evalOp,St.ev,Av.get,St.put,ofV,ai,Nat.reduceEqDiff,↓reduceIte,Option.map_some,hln];refine .block ?_
 refine .G4 8 7 9 16 l.length hL rfl rfl rfl rfl rfl rfl rfl rfl rfl (by decide) (by decide) (by decide)
  (fun i=>[(6,.vsl 0 x (l.map .str)),(3,.str (cN (l.take i)))]) (fun _=>rfl) (fun _=>[]) (fun _=>Nat.zero_le _) (fun i=>True) rfl trivial ?_ ?_ trivial ?_ ?_
 ·simp only[List.take_zero,vz]
  simp only[bz,Av.get,Nat.reduceEqDiff,↓reduceIte,bg,dk,dm,and_self]
 ·intro i _
  simp only[cm,AV.hlt,AV.bf,bH,Bool.and_self,Bool.and_true,Bool.true_and]
 ·intro i hi _
  obtain⟨u,hu,hdrop⟩:=drop_at hi;have hia:ak Tryz.prog 25 (.vsl 0 x (l.map .str)) (.int .i64 (i:Int)) []=some (.vptr [.str u]):=by
   simp[ak,bt,Tryz.underlying25,tz9,hu,AV.cells]
  have hle:=qi l (i+1);rw[mC hu]at hle;simp only[List.length_append,List.length_cons,List.length_nil]at hle;have ha:aH Tryz.prog .add 9 (.str u) (.str [13,10])=some (.str (u++[13,10])):=Bl _ _ _ (by simp;omega);have hb:aH Tryz.prog .add 9 (.str (cN (l.take i))) (.str (u++[13,10]))=some (.str (cN (l.take (i+1)))):=by rw[mC hu];exact Bl _ _ _ (by simp;omega)
  refine .block (.seq (.region [] (by decide) ?_));simp only[al,gdA,ae,aa,ah,an,evalOp,St.ev,Av.get,St.put,ai,Nat.reduceEqDiff,↓reduceIte,Option.map_some,hia,lw9];refine .region [] (by decide) ?_;simp only[al,gdA,ae,aa,ah,an,evalOp,St.ev,Av.get,St.put,ofV,Nat.reduceEqDiff,↓reduceIte,x2,ha,hb];refine⟨trivial,?_,trivial,rfl⟩;simp only[bz,Av.get,Nat.reduceEqDiff,↓reduceIte,bg,dk,dm,and_self]
 ·intro _
  rw[List.take_length];simp only[ai,↓reduceIte,aO];refine .seq (.region [] (by decide) ?_);simp only[al,gdA,ae,aa,ah,an,evalOp,St.ev,Av.get,St.put,ai,Nat.reduceEqDiff,↓reduceIte];exact .ret ⟨_,rfl,_,rfl,.refl _⟩
/-! ### Letters -/
set_option maxRecDepth 100000 in
theorem Eu(n b0 b1 b2 b3:Nat)(h:128≤b0)(h0:b0<256):
    128≤(Lib.decodeN n b0 b1 b2 b3).1∧((Lib.decodeN n b0 b1 b2 b3).2=1∨((Lib.decodeN n b0 b1 b2 b3).2=2∧1<n∧128≤b1)∨((Lib.decodeN n b0 b1 b2 b3).2=3∧2<n∧128≤b1∧128≤b2)∨((Lib.decodeN n b0 b1 b2 b3).2=4∧3<n∧128≤b1∧128≤b2∧128≤b3)):=by
  unfold Lib.decodeN
  repeat' split
  all_goals first
    |exact⟨by dsimp only;omega,.inl rfl⟩
    |exact⟨by dsimp only;omega,.inr (.inl ⟨rfl,by omega,by omega⟩)⟩
    |exact⟨by dsimp only;omega,.inr (.inr (.inl ⟨rfl,by omega,by omega,by omega⟩))⟩
    |exact⟨by dsimp only;omega,.inr (.inr (.inr ⟨rfl,by omega,by omega,by omega,by omega⟩))⟩
    |(exfalso;omega)
theorem HH{s:Bytes}{i:Nat}{x:UInt8}(hx:s[i]? =some x)(h:x.toNat<128):Utf8.decode ⟨s.toArray⟩ i=(x.toNat,1):=by
 rw[Lib.decode_N];have:(s.getD i 0)=x:=by simp[List.getD,hx]
 simp only[this];exact Lib.decodeN_ascii _ _ _ _ _ h
theorem Bm{s:Bytes}{i:Nat}{x:UInt8}(hx:s[i]? =some x)(h:128≤x.toNat):128≤(Utf8.decode ⟨s.toArray⟩ i).1∧1≤(Utf8.decode ⟨s.toArray⟩ i).2∧i+(Utf8.decode ⟨s.toArray⟩ i).2≤s.length∧
    ∀j,i≤j→j<i+(Utf8.decode ⟨s.toArray⟩ i).2→128≤(s.getD j 0).toNat:=by
  have hd:Utf8.decode ⟨s.toArray⟩ i=Lib.decodeN (s.length - i) (s.getD i 0).toNat (s.getD (i+1) 0).toNat (s.getD (i+2) 0).toNat (s.getD (i+3) 0).toNat:=by rw[Lib.decode_N]
  have hx0:(s.getD i 0)=x:=by simp[List.getD,hx]
  have hi:=(List.getElem?_eq_some_iff.1 hx).1;rw[hd,hx0];obtain⟨h1,h2⟩:=Eu (s.length - i) x.toNat (s.getD (i+1) 0).toNat (s.getD (i+2) 0).toNat (s.getD (i+3) 0).toNat h x.toNat_lt;refine⟨h1,?_⟩;generalize(Lib.decodeN (s.length - i) x.toNat (s.getD (i+1) 0).toNat (s.getD (i+2) 0).toNat (s.getD (i+3) 0).toNat).2=w at h2;refine⟨by omega,by omega,?_⟩;intro j hj1 hj2;have hj:j=i∨j=i+1∨j=i+2∨j=i+3:=by omega
  rcases hj with rfl|rfl|rfl|rfl
  · rw[hx0];exact h
  all_goals omega
/-! ### Names -/
def nmI(x:Int):Bool:=decide (x≥97)&&decide (x≤122)||decide (x≥65)&&decide (x≤90)||decide (x≥48)&&decide (x≤57)||(x==45)
def lead:Bytes→Nat
 | []=>0
 |x::t=>if nmI x.toNat then lead t+1 else 0
def ixN(s:Bytes):Int:=if lead s<s.length then(lead s:Int)else -1
theorem vA(r:Nat)(h:128≤r):nmI r=false:=by
 have h1:¬((r:Int)≤122):=by omega
 have h2:¬((r:Int)≤90):=by omega
 have h3:¬((r:Int)≤57):=by omega
 have h4:¬((r:Int)=45):=by omega
 simp[nmI,h1,h2,h3,h4]
section
variable{P:Program} {n m:Nat} {R:Option Nat} {Q:Ex→St→Prop} {a:St}
theorem RW.cut {ops:Array Oper} {l:List Oper} (c:Nat) (C:List (Nat×AV)) (rs:List CR) (hf:fits n ops=true) (h1:al P ops (ai (fun a'=>aC a'.T C∧a'.H=a.H∧a'.D=a.D) Q) rs (l.take c) a)
    (h2:RW P n m R ops Q (l.drop c) ⟨C,a.H,a.D⟩):RW P n m R ops Q l a:=by
  intro k hk B act w r;have hlen:(l.take c).length+(l.drop c).length=l.length:=by rw[←List.length_append,List.take_append_drop]
  have:=kv (P:=P) (R:=R) (Q:=Q) (Q':=ai (fun a'=>aC a'.T C∧a'.H=a.H∧a'.D=a.D) Q) (B:=B) (List.range' (k+(l.take c).length) (l.drop c).length) (dh hf) ?_ (fun _ _ _ h=>h) (l.take c) k rs a act w (fun i o hi=>hk i o (by
    rw[List.getElem?_take]at hi;split at hi
    · exact hi
    · cases hi)) h1 r
  · rw[←hlen]
    rw[←List.range'_append_1];exact this
  · rintro⟨T,H,D⟩ act' w' ⟨ht,h3,h4⟩ hr
    simp only at h3 h4;subst h3;subst h4;refine RW.bG C ht h2 _ (fun i o hi=> ?_) B act' w' hr;by_cases hc:c≤l.length
    · rw[List.length_take,Nat.min_eq_left hc,Nat.add_assoc]
      exact hk _ o (by rw[List.getElem?_drop]at hi;exact hi)
    · rw[List.drop_eq_nil_of_le (by omega)]at hi;simp at hi
end
noncomputable def xg:Array Oper:=match Tryz.f163.body with
 |some (.seq _ (.seq (.region _ ops _) _))=>ops
 |_=>#[]
theorem rF:fits 30 xg=true:=by kernel_rfl
theorem xh(j:Nat)(hj:j<28):(xg[j]?).bind (fun x=>x.dst)=if j<27 then some (j+3)else some 2:=by
 have:(List.range 28).all (fun j=>decide ((xg[j]?).bind (fun x=>x.dst)=if j<27 then some (j+3)else some 2))=true:=by kernel_rfl
 exact of_decide_eq_true (List.all_eq_true.1 this j (List.mem_range.2 hj))
set_option maxRecDepth 8000 in
theorem nmC(x:Int):ad Tryz.prog 163 [.int .i32 x] (.ret (.bool !(nmI x))):=by
 refine ad.of Tryz.func163 rfl (ab enters Tryz.func163 rfl) (by simp[Tryz.ntmps163]) ?_;show W Tryz.prog 30 0 none _ _ _;unfold nmI;generalize h1:decide (x≥97)=b1;generalize h2:decide (x≤122)=b2;generalize h3:decide (x≥65)=b3;generalize h4:decide (x≤90)=b4;generalize h5:decide (x≥48)=b5;generalize h6:decide (x≤57)=b6;generalize h7:(x==45)=b7;refine .seq (.region [] (by decide) ?_);simp only[al,gdA,ae,aa,ah,an,evalOp,St.ev,St.put,aL,ofV,ai];refine .seq (RW.start (ops0:=xg) rfl ?_);refine RW.cut 7 [(0,.int .i32 x),(9,.bool (b1&&b2))] [] rF ?_ ?_
 ·cases b1<;>cases b2<;>simp only[al,gdA,ae,aa,ah,an,evalOp,St.ev,Av.get,St.put,ofV,ai,Nat.reduceEqDiff,↓reduceIte,Bool.and_self,beq_true,Bool.false_eq_true,aU,cond_true,List.take_succ_cons,List.take_zero,xh,Nat.reduceLT,cB,ec,cZ,h1,h2]<;>exact⟨⟨rfl,rfl,trivial⟩,trivial,trivial⟩
 generalize(b1&&b2)=c1;simp only[List.drop_succ_cons,List.drop_zero];refine RW.cut 8 [(0,.int .i32 x),(17,.bool (c1||b3&&b4))] [] rF ?_ ?_
 ·cases c1<;>cases b3<;>cases b4<;>simp only[al,gdA,ae,aa,ah,an,evalOp,St.ev,Av.get,St.put,ofV,ai,Nat.reduceEqDiff,↓reduceIte,Bool.and_self,beq_false,beq_true,Bool.not_true,Bool.not_false,Bool.false_eq_true,aU,cond_true,cond_false,List.take_succ_cons,List.take_zero,xh,Nat.reduceLT,cB,ec,cZ,h3,h4]<;>exact⟨⟨rfl,rfl,trivial⟩,trivial,trivial⟩
 generalize(c1||b3&&b4)=c2;simp only[List.drop_succ_cons,List.drop_zero];refine RW.cut 8 [(0,.int .i32 x),(25,.bool (c2||b5&&b6))] [] rF ?_ ?_
 ·cases c2<;>cases b5<;>cases b6<;>simp only[al,gdA,ae,aa,ah,an,evalOp,St.ev,Av.get,St.put,ofV,ai,Nat.reduceEqDiff,↓reduceIte,Bool.and_self,beq_false,beq_true,Bool.not_true,Bool.not_false,Bool.false_eq_true,aU,cond_true,cond_false,List.take_succ_cons,List.take_zero,xh,Nat.reduceLT,cB,ec,cZ,h5,h6]<;>exact⟨⟨rfl,rfl,trivial⟩,trivial,trivial⟩
 generalize(c2||b5&&b6)=c3;simp only[List.drop_succ_cons,List.drop_zero];refine RW.cut 5 [(2,.bool !(c3||b7))] [] rF ?_ ?_
 ·cases c3<;>cases b7<;>simp only[al,gdA,ae,aa,ah,an,evalOp,St.ev,Av.get,St.put,ofV,ai,Nat.reduceEqDiff,↓reduceIte,Option.map_some,beq_false,Bool.not_true,Bool.not_false,aU,cond_false,List.take_succ_cons,List.take_zero,xh,Nat.reduceLT,dv,cZ,h7]<;>exact⟨⟨rfl,trivial⟩,trivial,trivial⟩
 simp only[List.drop_succ_cons,List.drop_zero];refine RW.done ?_;exact .ret ⟨_,rfl,_,rfl,.refl _⟩
theorem oo{s:Bytes}{i:Nat}{x:UInt8}(hx:s[i]? =some x)(h:x.toNat<128):
    ez (.ptr 0 0) [.siter s i]=some (.tup [.bool true,.int .i64 (i:Int),.int .i32 (x.toNat:Int)],[.siter s (i+1)]):=by
  have hi:=(List.getElem?_eq_some_iff.1 hx).1;simp[ez,hi,HH hx h]
theorem tx{s:Bytes}{i:Nat}{x:UInt8}(hx:s[i]? =some x):
    ez (.ptr 0 0) [.siter s i]=some (.tup [.bool true,.int .i64 (i:Int),.int .i32 ((Utf8.decode ⟨s.toArray⟩ i).1:Int)],[.siter s (i+(Utf8.decode ⟨s.toArray⟩ i).2)]):=by
  have hi:=(List.getElem?_eq_some_iff.1 hx).1;simp[ez,hi]
theorem lV{s:Bytes}{i:Nat}(hi:s.length≤i):ez (.ptr 0 0) [.siter s i]=some (.tup [.bool false],[.siter s i]):=by
 simp[ez];omega
theorem eqB(a b:Bool):aH Tryz.prog .eql 4 (.bool a) (.bool b)=some (.bool (a==b)):=by simp[aH,Tryz.underlying4]
def nmF:AV:=.func (.func 163) [] []
theorem xi:∀s:Bytes,lead s≤s.length
 | []=>Nat.le_refl _
 |x::t=>by unfold lead;have:=xi t;split<;>simp<;>omega
set_option maxRecDepth 8000 in
theorem HI(s:Bytes):ad Tryz.prog 187 [.str s,nmF,.bool true] (.ret (.int .i64 (ixN s))):=by
 refine ad.of Tryz.func187 rfl (ab enters Tryz.func187 rfl) (by simp[Tryz.ntmps187]) ?_;show W Tryz.prog 21 0 none _ _ _;have hr:fw Tryz.prog 9 (.str s) []=some (.ptr 0 0,[.siter s 0]):=by simp[fw,Tryz.underlying9]
 refine .seq (.region [] (by decide) ?_);simp only[al,gdA,ae,aa,ah,an,evalOp,St.ev,St.put,aL,ofV,ai];refine .seq (.seq (.region [] (by decide) ?_));simp only[al,gdA,ae,aa,ah,an,evalOp,St.ev,Av.get,St.put,ai,Nat.reduceEqDiff,↓reduceIte,hr];refine .block ?_
 refine .bc (X:=Nat) (fun i=>[(10,.ptr 0 0),(1,nmF),(2,.bool true)]) (fun i=>[.siter s i]) (fun i=>i≤s.length∧i+lead (s.drop i)=lead s) (fun i=>s.length - i) 0 ⟨Nat.zero_le _,by simp⟩
  (by simp[aC,Av.get]) rfl ?_
 rintro i ⟨hi,hall⟩;refine .seq (.region [] (by decide) ?_);by_cases h:i<s.length
 ·obtain⟨x,hx,hdrop⟩:=drop_at h
  rw[hdrop,lead]at hall;obtain⟨r,w,hnx,hr,hw⟩:∃(r:Int) (w:Nat),ez (.ptr 0 0) [.siter s i]=some (.tup [.bool true,.int .i64 (i:Int),.int .i32 r],[.siter s (i+w)])∧nmI r=nmI x.toNat∧(nmI x.toNat=true→w=1):=by
   rcases Nat.lt_or_ge x.toNat 128 with h1|h1
   ·exact⟨_,1,oo hx h1,rfl,fun _=>rfl⟩
   ·refine⟨_,_,tx hx,?_,fun h2=>?_⟩
    ·rw[vA _ (Bm hx h1).1,vA _ h1]
    ·rw[vA _ h1]at h2;cases h2
  have hc:=nmC r;rw[hr]at hc;simp only[al,fy,gdA,ae,aa,ah,an,evalOp,St.ev,Av.get,St.put,ai,↓reduceIte,List.getElem?_cons_zero,Option.map_some,hnx];refine .seq (.cond (t:=true) rfl (.skip ?_));simp only[ai];refine .block (.seq (.region [] (by decide) ?_));simp only[al,gdA,ae,aa,ah,an,evalOp,St.ev,Av.get,St.put,ai,Nat.reduceEqDiff,↓reduceIte,List.getElem?_cons_zero,List.getElem?_cons_succ,Option.map_some];cases hn:nmI x.toNat with
  |true=>
   rw[hn]at hc hall;rw[hw hn]at*;refine .seq (.region [.pure (.ret (.bool false))] (by decide) ?_);simp only[al,gdA,ae,aa,ah,an,evalOp,St.ev,Av.get,St.put,ai,Nat.reduceEqDiff,↓reduceIte,aG,AV.hfs,AV.hf,Bool.and_self,List.map_cons,List.map_nil,List.nil_append,List.append_nil,beq_true,nmF,eqB];refine⟨hc,?_⟩;refine .cond (t:=false) rfl (.skip ?_);simp only[ai,aO];refine⟨i+1,⟨by omega,by simp only[if_true]at hall;omega⟩,by omega,⟨rfl,rfl,rfl,trivial⟩,rfl,trivial⟩
  | false=>
   rw[hn]at hc hall;refine .seq (.region [.pure (.ret (.bool true))] (by decide) ?_);simp only[al,gdA,ae,aa,ah,an,evalOp,St.ev,Av.get,St.put,ai,Nat.reduceEqDiff,↓reduceIte,aG,AV.hfs,AV.hf,Bool.and_self,List.map_cons,List.map_nil,List.nil_append,List.append_nil,beq_true,nmF,eqB];refine⟨hc,?_⟩;refine .cond (t:=true) rfl (.seq (.region [] (by decide) ?_));simp only[al,gdA,ae,aa,ah,an,evalOp,St.ev,Av.get,St.put,ai,Nat.reduceEqDiff,↓reduceIte];refine .ret ?_;have:ixN s=(i:Int):=by
    simp only[Bool.false_eq_true,if_false,Nat.add_zero]at hall;unfold ixN;rw[if_pos (by omega)];omega
   rw[this];exact⟨_,rfl,_,rfl,.refl _⟩
 ·have hi':i=s.length:=by omega
  subst hi';simp only[al,fy,gdA,ae,aa,ah,an,evalOp,St.ev,Av.get,St.put,ai,↓reduceIte,List.getElem?_cons_zero,Option.map_some,lV (Nat.le_refl s.length)];refine .seq (.cond (t:=false) rfl (.exit ?_));simp only[ai,↓reduceIte,aO];refine .seq (.region [] (by decide) ?_);simp only[al,gdA,ae,aa,ah,an,evalOp,St.ev,St.put,ofV,ai];refine .ret ?_;have:ixN s= -1:=by
   rw[List.drop_length]at hall;simp only[lead]at hall;unfold ixN;rw[if_neg (by omega)]
  rw[this];exact⟨_,rfl,_,rfl,.refl _⟩
theorem Bn(s:Bytes):ad Tryz.prog 162 [.str s,nmF] (.ret (.int .i64 (ixN s))):=by
 refine ad.of Tryz.func162 rfl (ab enters Tryz.func162 rfl) (by simp[Tryz.ntmps162]) ?_;show W Tryz.prog 8 0 none _ _ _;refine .seq (.region [] (by decide) ?_);simp only[al,gdA,ae,aa,ah,an,evalOp,St.ev,St.put,aL,ofV,ai];refine .seq (.region [.pure (.ret (.int .i64 (ixN s)))] (by decide) ?_);simp only[al,gdA,ae,aa,ah,an,evalOp,St.ev,Av.get,St.put,ofV,ai,Nat.reduceEqDiff,↓reduceIte,aG,AV.hfs,AV.hf,Bool.and_self,List.map_cons,List.map_nil,List.nil_append,List.append_nil,nmF];exact⟨HI s,.ret ⟨_,rfl,_,rfl,.refl _⟩⟩
end Go.Proofs.YtekcidbpejicdaaGreatDoor
