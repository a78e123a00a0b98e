/- Contracts of functions that the statements of this seat reach: under the conditions named at each theorem. -/
import Derived.Test.YtekcidbpejicdaaGreatDoorZaP8
import Derived.Test.YtekcidbpejicdaaGreatDoorZaP14
import Derived.Test.YtekcidbpejicdaaGreatDoorZaP12
namespace Go.Proofs.YtekcidbpejicdaaGreatDoor
set_option linter.unusedVariables false
set_option linter.unusedSimpArgs false
open Go Go.Av Go.RowKit
theorem CO{n:Bytes}{k:Kd}(h:aD n=some k):k.fs≠ []∧(k.parts=false→k.fs.length=1):=by
 have:=kn n;rw[h]at this;cases this<;>simp
theorem Ad{l:Ln}{k:Kd}{c:List Val}(hk:aD (small l.n)=some k)(hm:k.many=false):ba k (cK l k c).1.v=bw k c:=by
 unfold cK;rw[hm];simp only[Bool.false_eq_true,if_false];by_cases h:ba k l.v=bw k c
 ·rw[if_pos h];exact h
 ·rw[if_neg h];exact CN (CO hk).1 (CO hk).2
theorem Ii(l:Ln)(k:Kd)(c:List Val):(cK l k c).1.n=l.n:=by
 unfold cK;split
 ·rfl
 ·split<;>rfl
theorem ja(x:List Val)(l:Ln):(bq x l).1.n=l.n:=by
 unfold bq;split
 ·rfl
 ·rw[Ii]
theorem rB{x:List Val}{l:Ln}{k:Kd}(hk:aD (small l.n)=some k)(hm:k.many=false){f:Nat}(hf:f∈k.fs):aK (bq x l).1 f=hdB (ar x f):=by
 obtain⟨n,hn⟩:=List.getElem?_of_mem hf;have hk2:aD (small (bq x l).1.n)=some k:=by rw[ja];exact hk
 have h1:=dw hk2 hn;have h2:ba k (bq x l).1.v=bw k x:=by
  have:bq x l=cK {l with x:=false} k x:=by unfold bq;rw[hk]
  rw[this];exact Ad (l:={l with x:=false}) hk hm
 rw[h2,bw,List.getElem?_map,hn]at h1;exact(Option.some.inj h1).symm
theorem nj{x:List Val}{l:Ln}{k:Kd}(hk:aD (small l.n)=some k)(hm:k.many=true):(bq x l).1=bare l:=by
 unfold bq;rw[hk];simp only[cK,hm,if_true];rfl
theorem rC{x:List Val}{l:Ln}(hk:aD (small l.n)=none):bq x l=(bare l,true):=by
 unfold bq;rw[hk];rfl
theorem yw(x:List Val)(l:Ln):bare (lnC x l).1=(bq x l).1∧(lnC x l).2=(bq x l).2:=by
 unfold lnC bq;cases hk:aD (small l.n)with
 |none=>exact⟨rfl,rfl⟩
 | some k=>
  show bare (cK l k x).1=(cK {l with x:=false} k x).1∧(cK l k x).2=(cK {l with x:=false} k x).2;unfold cK;cases hm:k.many with
  |true=>exact⟨rfl,rfl⟩
  |false=>
   simp only[Bool.false_eq_true,if_false];by_cases h:ba k l.v=bw k x
   ·rw[if_pos h,if_pos h];exact⟨rfl,rfl⟩
   ·rw[if_neg h,if_neg h];exact⟨rfl,rfl⟩
def kept(x:List Val)(ls:List Ln):List Ln:=(ei x ls).map (·.1)
theorem mC(x:List Val)(ls:List Ln):kept x ls=ls.flatMap fun l=>if(bq x l).2 then [(bq x l).1]else []:=by
 induction ls with
 |nil=>rfl
 |cons l ls ih=>
  unfold kept ei at*;rw[List.flatMap_cons,List.flatMap_cons,List.map_append,ih];congr 1;split<;>rfl
theorem nk(x:List Val)(ls:List Ln):(cV x ls).map bare=kept x ls:=by
 rw[mC];induction ls with
 |nil=>rfl
 |cons l ls ih=>
  unfold cV at*;rw[List.flatMap_cons,List.flatMap_cons,List.map_append,ih,(yw x l).2];congr 1;split
  ·simp[(yw x l).1]
  ·rfl
theorem yx(ls:List Ln)(f:Nat):xsP (ls.map bare) f=xsP ls f:=by
 simp only[xsP,List.flatMap_map];rfl
theorem gh{x:List Val}{ls:List Ln}{q:Ln}:q∈kept x ls↔∃l∈ls,(bq x l).2=true∧q=(bq x l).1:=by
 rw[mC,List.mem_flatMap];constructor
 ·rintro⟨l,hl,h⟩
  cases e:(bq x l).2<;>simp[e]at h;exact⟨l,hl,e,h⟩
 ·rintro⟨l,hl,e,rfl⟩
  exact⟨l,hl,by simp[e]⟩
theorem ll{ls:List Ln}{f:Nat}{s:Bytes}:s∈xsP ls f↔s≠ []∧∃l∈ls,aK l f=s:=by
 rw[xsP,List.mem_flatMap];constructor
 ·rintro⟨l,hl,h⟩
  unfold nz at h;split at h
  ·cases h
  ·rename_i hn
   have:=List.mem_singleton.1 h;subst this;exact⟨hn,l,hl,rfl⟩
 ·rintro⟨hs,l,hl,rfl⟩
  exact⟨l,hl,by simp[nz,hs]⟩
theorem rD(x:List Val)(n:Bytes)(hn:(aD n).isSome=true):∀(ls:List Ln) (acc:List Bytes),n∈ls.foldl (uV x) acc↔n∈acc∨∃l∈ls,(bq x l).2=true∧small l.n=n
 | [],acc=>by simp
 | l::ls,acc=>by
  rw[List.foldl_cons,rD x n hn ls];have:n∈uV x acc l↔n∈acc∨((bq x l).2=true∧small l.n=n):=by
   unfold uV;cases hk:aD (small l.n)with
   | none=>
    simp only;constructor
    ·exact .inl
    ·rintro(h|⟨_,rfl⟩)
     ·exact h
     ·rw[hk]at hn;cases hn
   | some k=>
    simp only;cases hb:(bq x l).2 with
    |false=>simp
    | true=>
     simp only[if_true,true_and];by_cases hm:small l.n∈acc
     ·rw[if_pos hm]
      constructor
      ·exact .inl
      ·rintro(h|rfl)
       ·exact h
       ·exact hm
     ·rw[if_neg hm,List.mem_append,List.mem_singleton]
      exact or_congr Iff.rfl eq_comm
  rw[this];simp only[List.mem_cons,exists_eq_or_imp,or_assoc]
theorem ku{x:List Val}{ls:List Ln}{n:Bytes}(hn:(aD n).isSome=true):n∈bf x ls↔∃q∈kept x ls,small q.n=n:=by
 rw[bf,rD x n hn];simp only[List.not_mem_nil,false_or];constructor
 ·rintro⟨l,hl,h1,h2⟩
  exact⟨_,gh.2 ⟨l,hl,h1,rfl⟩,by rw[ja];exact h2⟩
 ·rintro⟨q,hq,h2⟩
  obtain⟨l,hl,h1,rfl⟩:=gh.1 hq;rw[ja]at h2;exact⟨l,hl,h1,h2⟩
theorem CP{a b:Bytes}{k k':Kd}(ha:aD a=some k)(hb:aD b=some k'){f:Nat}(h1:f∈k.fs)(h2:f∈k'.fs):a=b:=by
 have h:=kn a;have h':=kn b;rw[ha]at h;rw[hb]at h';cases h<;>cases h'<;>first|rfl|(exfalso;simp at h1 h2;omega)
theorem tk{n:Bytes}{k:Kd}(h:aD n=some k){f:Nat}(hf:f∈k.fs)(h6:6≤f):k.many=true∧k.fs=[f]:=by
 have:=kn n;rw[h]at this;cases this<;>simp at hf<;>first|(exfalso;omega)|(subst hf;exact⟨rfl,rfl⟩)
theorem oo{l:Ln}{f:Nat}(h:aK l f≠ []):∃k,aD (small l.n)=some k∧f∈k.fs:=by
 cases hk:aD (small l.n)with
 |none=>exact(h (rb hk f)).elim
 |some k=>
  refine⟨k,rfl,?_⟩;by_cases hf:f∈k.fs
  ·exact hf
  ·exact(h (pz hk hf)).elim
theorem kv{x:List Val}{ls:List Ln}{n:Bytes}{k:Kd}(hk:aD n=some k)(hm:k.many=false)(h:n∈bf x ls){f:Nat}(hf:f∈k.fs)(hw:hdB (ar x f)≠ []):hdB (ar x f)∈xsP (kept x ls) f:=by
 obtain⟨q,hq,rfl⟩:=(ku (by rw[hk];rfl)).1 h;obtain⟨l,hl,h2,rfl⟩:=gh.1 hq;rw[ja]at hk;exact ll.2 ⟨hw,_,hq,rB hk hm hf⟩
theorem mD{x:List Val}{ls:List Ln}{n:Bytes}{k:Kd}(hk:aD n=some k)(h:n∉bf x ls){f:Nat}(hf:f∈k.fs):xsP (kept x ls) f=[]:=by
 rw[List.eq_nil_iff_forall_not_mem];intro s hs;obtain⟨hs0,q,hq,e⟩:=ll.1 hs;obtain⟨k',hk',hf'⟩:=oo (l:=q) (f:=f) (by rw[e];exact hs0);exact h ((ku (by rw[hk];rfl)).2 ⟨q,hq,CP hk' hk hf' hf⟩)
theorem xf{x:List Val}(h:br (ar x)=true){f:Nat}(hf:f<8):∀s∈ar x f,s≠ []:=by
 unfold br at h;simp only[Bool.and_eq_true,List.all_eq_true,List.mem_range]at h;have:=h.1 f hf;simp only[dp,Bool.and_eq_true,List.all_eq_true,decide_eq_true_eq]at this;intro s hs e;have:=this.2.1 s hs;simp only[eO,Bool.and_eq_true,decide_eq_true_eq]at this;rw[e]at this;simp at this
theorem mE{x:List Val}(h:br (ar x)=true){f:Nat}(hf:f<6):ar x f=[]∨∃w,w≠ []∧ar x f=[w]:=by
 have hne:=xf h (f:=f) (by omega);unfold br at h;simp only[Bool.and_eq_true,List.all_eq_true,List.mem_range]at h;have:=h.1 f (by omega);simp only[dp,Bool.and_eq_true,decide_eq_true_eq]at this;have h1:=this.1;unfold fi at h1;rw[if_neg (by omega)]at h1;cases e:ar x f with
 |nil=>exact .inl rfl
 |cons w t=>
  rw[e]at h1 hne;cases t with
  |nil=>exact .inr ⟨w,hne w (by simp),rfl⟩
  |cons _ _=>simp at h1
theorem Fb{x:List Val}{ls:List Ln}{f:Nat}(h6:6≤f){s:Bytes}(hs:s≠ []):s∈bX x ls f↔s∈xsP (kept x ls) f:=by
 rw[ll,bX,List.mem_flatMap];constructor
 ·rintro⟨l,hl,h⟩
  unfold kH at h;cases hk:aD (small l.n)with
  |none=>rw[hk]at h;cases h
  | some k=>
   rw[hk]at h;simp only at h;split at h
   ·rename_i hc
    simp only[Bool.and_eq_true,beq_iff_eq]at hc;have e:=List.mem_singleton.1 h;obtain⟨g,hg,h6'⟩:=(gH hk).2.2.2.2 hc.1.2;have hgf:g=f:=by have:=hc.2;rw[hg]at this;exact this
    subst hgf;have h1:=dw hk (n:=0) (f:=g) (by rw[hg];rfl);have h2:aK l g=s:=by
     rw[e];cases hv:ba k l.v with
     |nil=>rw[hv]at h1;cases h1
     |cons a t=>rw[hv]at h1;exact(Option.some.inj h1).symm
    exact⟨hs,_,gh.2 ⟨l,hl,hc.1.1,rfl⟩,by rw[nj hk hc.1.2];exact h2⟩
   ·cases h
 ·rintro⟨_,q,hq,e⟩
  obtain⟨l,hl,h2,rfl⟩:=gh.1 hq;obtain⟨k,hk,hf⟩:=oo (l:=(bq x l).1) (f:=f) (by rw[e];exact hs);rw[ja]at hk;obtain⟨hm,hg⟩:=tk hk hf h6;refine⟨l,hl,?_⟩;rw[nj hk hm]at e;have h1:=dw hk (n:=0) (f:=f) (by rw[hg];rfl);unfold kH;rw[hk];simp only[h2,hm,hg,Bool.and_self,Bool.true_and,List.headD_cons,beq_self_eq_true,if_true,List.mem_singleton];cases hv:ba k l.v with
  |nil=>rw[hv]at h1;cases h1
  |cons a t=>rw[hv]at h1;rw[←e];exact(Option.some.inj h1).symm
theorem CQ{l a b:List Bytes}(h:∀s∈l,s∈a↔s∈b):bR l a=bR l b:=by
 unfold bR;refine List.filter_congr fun s hs=>?_;have:=h s hs;simp[this]
section
variable{α:Type}
def eqL(p:α→α→Bool):List α→List α→Bool
 | [],[]=>true
 |a::r,b::s=>p a b&&eqL p r s
 |_,_=>false
theorem tm{p:α→α→Bool}:∀{a b:List α},eqL p a b=true→a.length=b.length
 | [],[],_=>rfl
 |x::a,y::b,h=>by
  simp only[eqL,Bool.and_eq_true]at h;simp[tm h.2]
 | [],_::_,h=>by cases h
 |_::_,[],h=>by cases h
end
def gK(p q:Bytes×Bytes):Bool:=small p.1==small q.1&&p.2==q.2
def dr(a b:Ln):Bool:=small a.g==small b.g&&(small a.n==small b.n&&(a.v==b.v&&eqL gK a.ps b.ps))
def jT(a b:Cd):Bool:=a.ver==b.ver&&eqL dr a.ls b.ls
set_option maxRecDepth 8000 in
theorem xg (a b:Ln):aa Tryz.prog 19 [aq a,aq b] (.ret (.bool (dr a b))):=by
 obtain⟨u1,u2,u5,u3,u4⟩:=a;obtain⟨v1,v2,v5,v3,v4⟩:=b;have h1:=jz u1;have h2:=jz v1;have h3:=jz u2;have h4:=jz v2;refine aa.zh fun hfit=>?_;have hfl:u3.length≤9223372036854775807:=by have:=hfit [.str u1,.str u2,.vsl 3 u5 (u3.map aH),.str u4] (by simp[aq]) (.vsl 3 u5 (u3.map aH)) (by simp);simp only[AV.fit,List.length_map]at this;exact this
 simp only[aq];refine aa.of Tryz.func19 rfl (ab enters Tryz.func19 rfl) (by simp[Tryz.ntmps19]) ?_;show W Tryz.prog 75 0 none _ _ _;refine W.vc (by decide) ?_
 repeat'(first|(simp(disch:=first|omega|(simp only[zL];omega))only[go_sem,seval]))
 refine W.aO [] [false,false,false,false,false,false,false,false,false,false,false,false,false,false,false,false,false,false,false,false,false,false,false,false,false,false,false,false,false,false,false,false] [] mixed (by kernel_rfl) (by kernel_rfl) (by kernel_rfl) ?_;cases e1:small u1==small v1 with
 |false=>
  have e:dr ⟨u1,u2,u5,u3,u4⟩ ⟨v1,v2,v5,v3,v4⟩=false:=by simp only[dr,e1];rfl
  rw[e]
  repeat'(first|(simp(disch:=first|omega|(simp only[zL];omega))only[go_sem,seval,e1,bne])|((with_reducible first|apply aj.pure|apply an.pure);(with_reducible assumption);(first|rfl|simp only[go_sem])))
  exact⟨_,rfl,_,rfl,.refl _⟩
 | true=>
  cases e2:small u2==small v2 with
  |false=>
   have e:dr ⟨u1,u2,u5,u3,u4⟩ ⟨v1,v2,v5,v3,v4⟩=false:=by simp only[dr,e1,e2];rfl
   rw[e]
   repeat'(first|(simp(disch:=first|omega|(simp only[zL];omega))only[go_sem,seval,e1,e2,bne])|((with_reducible first|apply aj.pure|apply an.pure);(with_reducible assumption);(first|rfl|simp only[go_sem])))
   exact⟨_,rfl,_,rfl,.refl _⟩
  | true=>
   cases e3:u4==v4 with
   |false=>
    have e:dr ⟨u1,u2,u5,u3,u4⟩ ⟨v1,v2,v5,v3,v4⟩=false:=by simp only[dr,e1,e2,e3];rfl
    rw[e]
    repeat'(first|(simp(disch:=first|omega|(simp only[zL];omega))only[go_sem,seval,e1,e2,e3,bne])|((with_reducible first|apply aj.pure|apply an.pure);(with_reducible assumption);(first|rfl|simp only[go_sem])))
    exact⟨_,rfl,_,rfl,.refl _⟩
   | true=>
    have e:dr ⟨u1,u2,u5,u3,u4⟩ ⟨v1,v2,v5,v3,v4⟩=eqL gK u3 v3:=by simp only[dr,e1,e2,e3];rfl
    rw[e];by_cases hl:u3.length=v3.length
    ·repeat'(first|(simp(disch:=first|omega|(simp only[zL];omega))only[go_sem,seval,e1,e2,e3,bne])|((with_reducible first|apply aj.pure|apply an.pure);(with_reducible assumption);(first|rfl|simp only[go_sem])))
     refine W.bh (X:=Nat) (fun i=>[(5,.int .i64 (i:Int)),(2,.ptr 0 0),(3,.ptr 1 0)]) (fun _=>[.cells [.str u1,.str u2,.vsl 3 u5 (u3.map aH),.str u4] false,.cells [.str v1,.str v2,.vsl 3 v5 (v3.map aH),.str v4] false])
      (fun i=>i≤u3.length∧eqL gK (u3.drop i) (v3.drop i)=eqL gK u3 v3) (fun i=>u3.length - i) 0 ⟨Nat.zero_le _,rfl⟩ ⟨rfl,rfl,rfl,trivial⟩ rfl ?_
     rintro i ⟨hi,hE⟩;refine .vc (by decide) ?_;by_cases h:i<u3.length
     ·obtain⟨⟨p1,p2⟩,hu,hud⟩:=drop_at h
      obtain⟨⟨q1,q2⟩,hv,hvd⟩:=drop_at (show i<v3.length from by omega);rw[hud,hvd,eqL]at hE;have hia:∀H,ah Tryz.prog 44 (.vsl 3 u5 (u3.map aH)) (.int .i64 (i:Int)) H=some (.vptr [.str p1,.str p2]):=fun H=>zj (v:=aH (p1,p2)) (by simp[hu]) rfl H;have hib:∀H,ah Tryz.prog 44 (.vsl 3 v5 (v3.map aH)) (.int .i64 (i:Int)) H=some (.vptr [.str q1,.str q2]):=fun H=>zj (v:=aH (q1,q2)) (by simp[hv]) rfl H;have g1:=jz p1;have g2:=jz q1
      repeat'(first|(simp(disch:=first|omega|(simp only[zL];omega))only[go_sem,seval]))
      refine W.aO [] [false,false,false,false,false,false,false,false,false,false,false,false,false,false,false,false,false,false,false,false,false,false,false,false,false,false,false,false,false,false] [] mixed (by kernel_rfl) (by kernel_rfl) (by kernel_rfl) ?_;cases f1:small p1==small q1 with
      |false=>
       have e:gK (p1,p2) (q1,q2)=false:=by simp only[gK,f1];rfl
       rw[e]at hE;rw[←hE]
       repeat'(first|(simp(disch:=first|omega|(simp only[zL];omega))only[go_sem,seval,hia,hib,f1,bne])|((with_reducible first|apply aj.pure|apply an.pure);(with_reducible assumption);(first|rfl|simp only[go_sem])))
       exact⟨_,rfl,_,rfl,.refl _⟩
      | true=>
       cases f2:p2==q2 with
       |false=>
        have e:gK (p1,p2) (q1,q2)=false:=by simp only[gK,f1,f2];rfl
        rw[e]at hE;rw[←hE]
        repeat'(first|(simp(disch:=first|omega|(simp only[zL];omega))only[go_sem,seval,hia,hib,f1,f2,bne])|((with_reducible first|apply aj.pure|apply an.pure);(with_reducible assumption);(first|rfl|simp only[go_sem])))
        exact⟨_,rfl,_,rfl,.refl _⟩
       |true=>
        have e:gK (p1,p2) (q1,q2)=true:=by simp only[gK,f1,f2];rfl
        rw[e]at hE
        repeat'(first|(simp(disch:=first|omega|(simp only[zL];omega))only[go_sem,seval,hia,hib,f1,f2,bne])|((with_reducible first|apply aj.pure|apply an.pure);(with_reducible assumption);(first|rfl|simp only[go_sem])))
        exact⟨i+1,⟨by omega,by rw[←hE];rfl⟩,by omega,⟨rfl,rfl,rfl,trivial⟩⟩
     ·have e:i=u3.length:=by omega
      subst e;rw[List.drop_length,hl,List.drop_length]at hE;rw[←hE]
      repeat'(first|(simp(disch:=first|omega|(simp only[zL];omega))only[go_sem,seval]))
      exact⟨_,rfl,_,rfl,.refl _⟩
    ·have e:eqL gK u3 v3=false:=by
      cases h:eqL gK u3 v3 with
      |false=>rfl
      |true=>exact(hl (tm h)).elim
     rw[e]
     repeat'(first|(simp(disch:=first|omega|(simp only[zL];omega))only[go_sem,seval,e1,e2,e3,bne])|((with_reducible first|apply aj.pure|apply an.pure);(with_reducible assumption);(first|rfl|simp only[go_sem])))
     exact⟨_,rfl,_,rfl,.refl _⟩
set_option maxRecDepth 8000 in
theorem tn(a b:Cd):aa Tryz.prog 14 [aS a,aS b] (.ret (.bool (jT a b))):=by
 obtain⟨u1,u2,u3⟩:=a;obtain⟨v1,v2,v3⟩:=b;refine aa.zh fun hfit=>?_;have hfl:u3.length≤9223372036854775807:=by have:=hfit [.str u1,.vsl 5 u2 (u3.map aq)] (by simp[aS]) (.vsl 5 u2 (u3.map aq)) (by simp);simp only[AV.fit,List.length_map]at this;exact this
 simp only[aS];refine aa.of Tryz.func14 rfl (ab enters Tryz.func14 rfl) (by simp[Tryz.ntmps14]) ?_;show W Tryz.prog 39 0 none _ _ _;refine W.vc (by decide) ?_;cases e1:u1==v1 with
 |false=>
  have e:jT ⟨u1,u2,u3⟩ ⟨v1,v2,v3⟩=false:=by simp only[jT,e1];rfl
  rw[e]
  repeat'(first|(simp(disch:=first|omega|(simp only[zL];omega))only[go_sem,seval,e1,bne]))
  exact⟨_,rfl,_,rfl,.refl _⟩
 | true=>
  have e:jT ⟨u1,u2,u3⟩ ⟨v1,v2,v3⟩=eqL dr u3 v3:=by simp only[jT,e1];rfl
  rw[e];by_cases hl:u3.length=v3.length
  ·repeat'(first|(simp(disch:=first|omega|(simp only[zL];omega))only[go_sem,seval,e1,bne]))
   refine W.bh (X:=Nat) (fun i=>[(5,.int .i64 (i:Int)),(2,.ptr 0 0),(3,.ptr 1 0)]) (fun _=>[.cells [.str u1,.vsl 5 u2 (u3.map aq)] false,.cells [.str v1,.vsl 5 v2 (v3.map aq)] false])
    (fun i=>i≤u3.length∧eqL dr (u3.drop i) (v3.drop i)=eqL dr u3 v3) (fun i=>u3.length - i) 0 ⟨Nat.zero_le _,rfl⟩ ⟨rfl,rfl,rfl,trivial⟩ rfl ?_
   rintro i ⟨hi,hE⟩;refine .vc (by decide) ?_;by_cases h:i<u3.length
   ·obtain⟨⟨p1,p2,p3,p4,p5⟩,hu,hud⟩:=drop_at h
    obtain⟨⟨q1,q2,q3,q4,q5⟩,hv,hvd⟩:=drop_at (show i<v3.length from by omega);rw[hud,hvd,eqL]at hE;have hia:∀H,ah Tryz.prog 22 (.vsl 5 u2 (u3.map aq)) (.int .i64 (i:Int)) H=some (.vptr [.str p1,.str p2,.vsl 3 p3 (p4.map aH),.str p5]):=fun H=>jj (v:=aq ⟨p1,p2,p3,p4,p5⟩) (by simp[hu]) rfl H;have hib:∀H,ah Tryz.prog 22 (.vsl 5 v2 (v3.map aq)) (.int .i64 (i:Int)) H=some (.vptr [.str q1,.str q2,.vsl 3 q3 (q4.map aH),.str q5]):=fun H=>jj (v:=aq ⟨q1,q2,q3,q4,q5⟩) (by simp[hv]) rfl H;have g1:=xg ⟨p1,p2,p3,p4,p5⟩ ⟨q1,q2,q3,q4,q5⟩;simp only[aq]at g1
    repeat'(first|(simp(disch:=first|omega|(simp only[zL];omega))only[go_sem,seval]))
    refine W.aO [] [false,false,false,false,false,false,false,false,false,false,false,false] [] mixed (by kernel_rfl) (by kernel_rfl) (by kernel_rfl) ?_;cases f1:dr ⟨p1,p2,p3,p4,p5⟩ ⟨q1,q2,q3,q4,q5⟩with
    |false=>
     rw[f1]at hE g1;rw[←hE]
     repeat'(first|(simp(disch:=first|omega|(simp only[zL];omega))only[go_sem,seval,hia,hib])|((with_reducible first|apply aj.pure|apply an.pure);(with_reducible exact g1);(first|rfl|simp only[go_sem,az])))
     exact⟨_,rfl,_,rfl,.refl _⟩
    |true=>
     rw[f1]at hE g1
     repeat'(first|(simp(disch:=first|omega|(simp only[zL];omega))only[go_sem,seval,hia,hib])|((with_reducible first|apply aj.pure|apply an.pure);(with_reducible exact g1);(first|rfl|simp only[go_sem,az])))
     exact⟨i+1,⟨by omega,by rw[←hE];rfl⟩,by omega,⟨rfl,rfl,rfl,trivial⟩⟩
   ·have e:i=u3.length:=by omega
    subst e;rw[List.drop_length,hl,List.drop_length]at hE;rw[←hE]
    repeat'(first|(simp(disch:=first|omega|(simp only[zL];omega))only[go_sem,seval]))
    exact⟨_,rfl,_,rfl,.refl _⟩
  ·have e:eqL dr u3 v3=false:=by
    cases h:eqL dr u3 v3 with
    |false=>rfl
    |true=>exact(hl (tm h)).elim
   rw[e]
   repeat'(first|(simp(disch:=first|omega|(simp only[zL];omega))only[go_sem,seval,e1,bne]))
   exact⟨_,rfl,_,rfl,.refl _⟩
theorem Ki{x:List Val}{ls:List Ln}:lf (bf x ls) x nFN=fA x (xsP (kept x ls)):=by
 have hk:aD nFN=some ⟨[0],false,false⟩:=by kernel_rfl
 have hw:jg x nFN=[hdB (ar x 0)]:=by unfold jg;rw[hk];rfl
 have hv:gZ x nFN=esc (hdB (ar x 0)):=by
  unfold gZ;rw[hw,if_neg (by decide)];simp[Lib.join,List.intercalate]
 unfold lf fA;rw[hw,hv];simp only[List.flatten_cons,List.flatten_nil,List.append_nil];by_cases e:hdB (ar x 0)=[]
 ·rw[if_pos (.inr e),if_neg (fun h=>h.2 e)]
 ·by_cases h:nFN∈bf x ls
  ·rw[if_pos (.inl (cR.2 h)),if_neg (fun q=>by have:=kv hk rfl h (f:=0) (by simp) e;rw[q.1]at this;cases this)]
  ·rw[if_neg (fun q=>q.elim (fun q=>h (cR.1 q)) e),if_pos ⟨mD hk h (by simp),e⟩]
theorem Kj{x:List Val}{ls:List Ln}:lf (bf x ls) x nN=dM x (xsP (kept x ls)):=by
 have hk:aD nN=some ⟨[2,1],true,false⟩:=by kernel_rfl
 have hw:jg x nN=[hdB (ar x 2),hdB (ar x 1)]:=by unfold jg;rw[hk];rfl
 have hv:gZ x nN=esc (hdB (ar x 2))++[59]++esc (hdB (ar x 1))++[59,59,59]:=by
  unfold gZ;rw[hw,if_pos rfl];simp[Lib.join,List.intercalate]
 unfold lf dM;rw[hw,hv];have hf:([hdB (ar x 2),hdB (ar x 1)]:List Bytes).flatten=[]↔hdB (ar x 1)++hdB (ar x 2)=[]:=by
  simp only[List.flatten_cons,List.flatten_nil,List.append_nil,List.append_eq_nil_iff];exact and_comm
 by_cases e:hdB (ar x 1)++hdB (ar x 2)=[]
 ·rw[if_pos (.inr (hf.2 e)),if_neg (fun h=>h.2.2 e)]
 ·by_cases h:nN∈bf x ls
  ·rw[if_pos (.inl (cR.2 h)),if_neg]
   rintro⟨q1,q2,_⟩;apply e;rw[List.append_eq_nil_iff];refine⟨Decidable.byContradiction fun w=>?_,Decidable.byContradiction fun w=>?_⟩
   ·have:=kv hk rfl h (f:=1) (by simp) w;rw[q1]at this;cases this
   ·have:=kv hk rfl h (f:=2) (by simp) w;rw[q2]at this;cases this
  ·rw[if_neg (fun q=>q.elim (fun q=>h (cR.1 q)) (fun q=>e (hf.1 q))),if_pos ⟨mD hk h (by simp),mD hk h (by simp),e⟩]
theorem CS{x:List Val}(hx:br (ar x)=true){ls:List Ln}{n:Bytes}{f:Nat}{b:Bool}(hk:aD n=some ⟨[f],b,false⟩)(hn:n≠nN)(h8:eT[f]? =some n)(hf:f<6):lf (bf x ls) x n=bC x (xsP (kept x ls)) f:=by
 have hw:jg x n=[hdB (ar x f)]:=by unfold jg;rw[hk];rfl
 have hv:gZ x n=esc (hdB (ar x f)):=by
  unfold gZ;rw[hw,if_neg hn];simp[Lib.join,List.intercalate]
 unfold lf bC;rw[hw,hv,h8];simp only[List.flatten_cons,List.flatten_nil,List.append_nil];rcases mE hx hf with e|⟨w,hw0,e⟩
 ·rw[e,if_pos (.inr rfl)];rfl
 ·have e1:hdB (ar x f)=w:=by rw[e];rfl
  by_cases h:n∈bf x ls
  ·have:=kv hk rfl h (f:=f) (by simp) (by rw[e1];exact hw0)
   rw[e1]at this;rw[if_pos (.inl (cR.2 h)),e];simp[bR,this]
  ·have:=mD hk h (f:=f) (by simp)
   rw[if_neg (fun q=>q.elim (fun q=>h (cR.1 q)) (fun q=>hw0 (by rw[←e1];exact q))),e1,e,this];simp[bR]
theorem FQ{x:List Val}(hx:br (ar x)=true){ls:List Ln}{i:Nat}{n:Bytes}(h2:hG[i]? =some n)(h8:eT[6+i]? =some n)(hi:i<2):tc x (bX x ls) i=bC x (xsP (kept x ls)) (6+i):=by
 unfold tc bC qD;rw[h2,h8];simp only;rw[CQ (fun s hs=>Fb (by omega) (xf hx (by omega) s hs))]
theorem nl{x:List Val}(hx:br (ar x)=true)(ls:List Ln):dK (bf x ls) x aP++gI x (bX x ls) 2=eH x (xsP (kept x ls)):=by
 have e1:dK (bf x ls) x aP=fA x (xsP (kept x ls))++(dM x (xsP (kept x ls))++(bC x (xsP (kept x ls)) 3++(bC x (xsP (kept x ls)) 4++bC x (xsP (kept x ls)) 5))):=by
  rw[←Ki,←Kj,←CS hx (n:=ct) (b:=true) rfl (by decide) rfl (by decide),←CS hx (n:=bg) (b:=false) rfl (by decide) rfl (by decide),←CS hx (n:=bx) (b:=false) rfl (by decide) rfl (by decide)];simp[dK,aP]
 have e2:gI x (bX x ls) 2=bC x (xsP (kept x ls)) 6++bC x (xsP (kept x ls)) 7:=by
  rw[←FQ hx (i:=0) (n:=bm) rfl rfl (by decide),←FQ hx (i:=1) (n:=cE) rfl rfl (by decide)];simp[gI,List.range,List.range.loop]
 rw[e1,e2];unfold eH;simp[List.range,List.range.loop]
theorem CT{c:Cd}{x:List Val}(hx:br (ar x)=true):(dL c x).ls.map bare=(lg c x).ls.map bare:=by
 have h1:(dL c x).ls=kept x c.ls++(eH x (xsP (kept x c.ls))).map (·.1):=by
  show(ng c x).map (·.1)=_;unfold ng;rw[List.append_assoc,List.map_append,nl hx];rfl
 have h2:(lg c x).ls=cV x c.ls++(eH x (xsP (kept x c.ls))).map (·.1):=by
  show(vi ⟨c.ver,false,cV x c.ls⟩ x).map (·.1)=_;unfold vi;rw[List.map_append,←nk];simp only[List.map_map];congr 1
  ·exact(List.map_congr_left (fun _ _=>rfl)).trans (List.map_id _)
  ·have:xsP ((cV x c.ls).map bare)=xsP (cV x c.ls):=funext fun f=>yx _ f
   rw[this]
 rw[h1,h2,List.map_append,List.map_append,nk];congr 1;rw[←nk,List.map_map];rfl
theorem xh{α:Type}{p:α→α→Bool}(hp:∀a,p a a=true):∀a:List α,eqL p a a=true
 | []=>rfl
 |x::a=>by rw[eqL,hp x,xh hp a];rfl
theorem CU(a:Bytes×Bytes):gK a a=true:=by simp[gK]
theorem vn(a:Ln):dr a a=true:=by simp[dr,xh CU]
theorem yy{α:Type}{p:α→α→Bool}{g:α→α}(hg:∀a b,p (g a) (g b)=p a b):∀a b:List α,eqL p (a.map g) (b.map g)=eqL p a b
 | [],[]=>rfl
 | [],_::_=>rfl
 |_::_,[]=>rfl
 |x::a,y::b=>by rw[List.map_cons,List.map_cons,eqL,eqL,hg,yy hg a b]
theorem xi(a b:Ln):dr (bare a) (bare b)=dr a b:=rfl
def alike(a b:Cd):Prop:=a.ver=b.ver∧a.ls.map bare=b.ls.map bare
theorem jb{a b:Cd}(h:alike a b):jT a b=true:=by
 unfold jT;rw[h.1,←yy xi,h.2,xh vn];simp
theorem vo{p:Ln→Bool}(hp:∀l,p (bare l)=p l)(a:List Ln):(a.map bare).all p=a.all p:=by
 rw[List.all_map];congr 1;funext l;exact hp l
theorem jU{a b:Cd}(h:alike a b):aL a=aL b:=by
 have hl:a.ls.length=b.ls.length:=by have:=congrArg List.length h.2;simpa using this
 have h1:bU a=bU b:=by
  unfold bU;rw[h.1,←vo (p:=cf) (fun _=>rfl) a.ls,←vo (p:=cf) (fun _=>rfl) b.ls,h.2,hl]
 have h2:laid a=laid b:=by
  have e:∀c:Cd,laid c=laid ⟨c.ver,false,c.ls.map bare⟩:=fun c=>by
   simp only[laid,fh,List.map_map,List.flatMap_map];rfl
  rw[e a,e b,h.1,h.2]
 unfold aL;rw[h1,h2]
theorem np(c:Cd){x:List Val}(hx:br (ar x)=true):alike (dL c x) (lg c x):=⟨rfl,CT hx⟩
theorem rE(c:Cd)(x:List Val):(aM c x).2=(kI c x).2∧alike (aM c x).1 (kI c x).1:=by
 have hr:alike fw fw:=⟨rfl,rfl⟩
 unfold aM kI;by_cases h:aL c=0∧br (ar x)=true
 ·rw[if_pos h,if_pos h,(of_same c).1]
  by_cases h2:(ofR c).2=0
  ·rw[if_pos h2,if_pos h2,jU (np c h.2)]
   by_cases h3:aL (lg c x)=0
   ·rw[if_pos h3,if_pos h3];exact⟨rfl,np c h.2⟩
   ·rw[if_neg h3,if_neg h3];exact⟨rfl,hr⟩
  ·rw[if_neg h2,if_neg h2];exact⟨rfl,hr⟩
 ·rw[if_neg h,if_neg h];exact⟨rfl,hr⟩
theorem rF{x:List Val}(hx:br (ar x)=true):alike (dL ⟨ia,true,[]⟩ x) (jh ⟨ia,true,[]⟩ x):=by
 have:=np ⟨ia,true,[]⟩ hx;exact this
theorem ql(x:List Val):(iC x).2=(qg x).2∧alike (iC x).1 (qg x).1:=by
 have hr:alike fw fw:=⟨rfl,rfl⟩
 unfold iC qg;by_cases h:br (ar x)=true
 ·rw[if_pos h,if_pos h,jU (rF h)]
  by_cases h3:aL (jh ⟨ia,true,[]⟩ x)=0
  ·rw[if_pos h3,if_pos h3];exact⟨rfl,rF h⟩
  ·rw[if_neg h3,if_neg h3];exact⟨rfl,hr⟩
 ·rw[if_neg h,if_neg h];exact⟨rfl,hr⟩
def Ij(l:List Bytes):Bool:=if 20<l.length then false else l.all fun s=>decide (s.length≤400)
def CV(x:List Val):Nat→Bool
 |0=>true
 |m+1=>Ij (ar x (7 - m))&&CV x m
def qm(x:List Val):Bool:=CV x 8
set_option maxRecDepth 8000 in
theorem CW(x:List Val)(hx:x.length=8):aa Tryz.prog 10 [.agg (x.map av)] (.ret (.bool (qm x))):=by
 have hld:∀(i:Nat) (v:Val) (H:List OB),x[i]? =some v→al Tryz.prog 25 (.ptr 0 i) (.cells (x.map av) false::H)=some (av v):=fun i v H h=>by
  simp[vX,ldC,h]
 refine aa.of Tryz.func10 rfl (ab enters Tryz.func10 rfl) (by simp[Tryz.ntmps10]) ?_;show W Tryz.prog 30 0 none _ _ _;refine W.vc (by decide) ?_
 repeat'(first|(simp(disch:=first|omega|(simp only[zL];omega))only[go_sem,seval]))
 refine W.bh (X:=Nat) (fun i=>[(3,.int .i64 (i:Int)),(1,.ptr 0 0)]) (fun _=>[.cells (x.map av) false])
  (fun i=>i≤8∧CV x (8 - i)=qm x) (fun i=>8 - i) 0 ⟨Nat.zero_le _,rfl⟩ ⟨rfl,rfl,trivial⟩ rfl ?_
 rintro i ⟨hi,hL⟩;simp only at hi hL ⊢;refine .vc (by decide) ?_;by_cases h:i<8
 ·obtain⟨m,hm⟩:∃m,8 - i=m+1:=⟨7 - i,by omega⟩
  rw[hm,CV,show 7 - m=i by omega]at hL;obtain⟨v,hv⟩:∃v,x[i]? =some v:=⟨_,List.getElem?_eq_getElem (by omega)⟩
  have hf:ar x i=v.2:=eP x i v hv;rw[hf]at hL;have hia:=eG 0 i h;have hl:=fun H=>hld i v H hv;obtain⟨vx,l⟩:=v;simp only[av]at hl hL;have hln:∀H,aI Tryz.prog 25 (.vsl 0 vx (l.map .str)) H=some (.int .i64 l.length):=fun H=>by simp[aI,Tryz.underlying25]
  by_cases c1:20<l.length
  ·have e:qm x=false:=by rw[←hL,Ij,if_pos c1];rfl
   rw[e]
   repeat'(first|(simp(disch:=first|omega|(simp only[zL];omega))only[go_sem,seval,hia,hln,hl]))
   exact⟨_,rfl,_,rfl,.refl _⟩
  rw[Ij,if_neg c1]at hL
  repeat'(first|(simp(disch:=first|omega|(simp only[zL];omega))only[go_sem,seval,hia,hln,hl]))
  refine W.bh (X:=Nat) (fun k=>[(4,.int .i64 (k:Int)),(3,.int .i64 (i:Int)),(1,.ptr 0 0)]) (fun _=>[.cells (x.map av) false])
   (fun k=>k≤l.length∧((l.drop k).all (fun s=>decide (s.length≤400))&&CV x m)=qm x) (fun k=>l.length - k) 0 ⟨Nat.zero_le _,hL⟩ ⟨rfl,rfl,rfl,trivial⟩ rfl ?_
  rintro k ⟨hk,hP⟩;simp only at hk hP ⊢;refine .vc (by decide) ?_;by_cases hkl:k<l.length
  ·obtain⟨s,hs,hd⟩:=drop_at hkl
   have hja:∀H,ah Tryz.prog 25 (.vsl 0 vx (l.map .str)) (.int .i64 (k:Int)) H=some (.vptr [.str s]):=fun H=>dW (v:=.str s) (by simp[hs]) rfl H;rw[hd,List.all_cons]at hP;by_cases c4:400<s.length
   ·have e:qm x=false:=by rw[←hP,decide_eq_false (by omega)];rfl
    rw[e]
    repeat'(first|(simp(disch:=first|omega|(simp only[zL];omega))only[go_sem,seval,hia,hln,hl,hja]))
    exact⟨_,rfl,_,rfl,.refl _⟩
   ·rw[decide_eq_true (by omega),Bool.true_and]at hP
    repeat'(first|(simp(disch:=first|omega|(simp only[zL];omega))only[go_sem,seval,hia,hln,hl,hja]))
    exact⟨k+1,⟨by omega,hP⟩,by omega,⟨rfl,rfl,rfl,trivial⟩⟩
  ·have e:k=l.length:=by omega
   subst e;rw[List.drop_length,List.all_nil,Bool.true_and]at hP
   repeat'(first|(simp(disch:=first|omega|(simp only[zL];omega))only[go_sem,seval,hia,hln,hl]))
   exact⟨i+1,⟨by omega,by rw[show 8 - (i+1)=m by omega];exact hP⟩,by omega,⟨rfl,rfl,trivial⟩⟩
 ·have e:i=8:=by omega
  subst e;have hL:true=qm x:=hL;rw[←hL]
  repeat'(first|(simp(disch:=first|omega|(simp only[zL];omega))only[go_sem,seval]))
  exact⟨_,rfl,_,rfl,.refl _⟩
set_option maxRecDepth 8000 in
theorem cardsInto(c:Cd)(x:List Val)(hx:x.length=8):aa Tryz.prog 3 [aS c,.agg (x.map av)] (.ret (.bool true)):=by
 have hl:=ti c;have hf:=CW x hx;have hk:=qj;have hp:=qd c x hx;have hr:=Ia c x hx;have hs:=tn (aM c x).1 (kI c x).1;rw[jb (rE c x).2]at hs;rw[(rE c x).1]at hp;generalize(kI c x).2=E at*;generalize(aM c x).1=o at*;generalize(kI c x).1=p at*;generalize gg c=la at*;generalize qm x=fb at*;obtain⟨ver,fx,ls⟩:=c;obtain⟨over,ofx,ols⟩:=o;obtain⟨pver,pfx,pls⟩:=p;have hLh:=aN ls;have hOh:=aN ols;have hPh:=aN pls;have hxh:=aJ x;have hxc:(x.map av).length=8:=by simp[hx]
 simp only[aS]at hl hp hr hs ⊢;generalize ls.map aq=L at*;generalize ols.map aq=OL at*;generalize pls.map aq=PL at*;generalize x.map av=X at*;have hldx:∀A Z,al Tryz.prog 27 (.ptr 1 0) (A::.cells X false::Z)=some (.agg X):=by
  intro A Z;simp[gQ,ldG,hxc];exact List.take_of_length_le (by omega)
 refine aa.of Tryz.func3 rfl (ab enters Tryz.func3 rfl) (by simp[Tryz.ntmps3]) ?_;show W Tryz.prog 41 0 none _ _ _;refine W.vc (by decide) ?_;cases la with
 |false=>
  repeat'(first|(simp(disch:=first|omega|(simp only[zL];omega))only[go_sem,seval,hldx])|((with_reducible first|apply aj.pure|apply an.pure);(with_reducible assumption);(first|rfl|simp only[go_sem,hLh,hxh])))
  exact⟨_,rfl,_,rfl,.refl _⟩
 | true=>
  cases fb with
  |false=>
   repeat'(first|(simp(disch:=first|omega|(simp only[zL];omega))only[go_sem,seval,hldx])|((with_reducible first|apply aj.pure|apply an.pure);(with_reducible assumption);(first|rfl|simp only[go_sem,hLh,hxh])))
   exact⟨_,rfl,_,rfl,.refl _⟩
  |true=>
   repeat'(first|(simp(disch:=first|omega|(simp only[zL];omega))only[go_sem,seval,hldx,beq_self_eq_true])|((with_reducible first|apply aj.pure|apply an.pure);(with_reducible assumption);(first|rfl|simp only[go_sem,hLh,hxh,hOh,hPh])))
   exact⟨_,rfl,_,rfl,.refl _⟩
open Go Go.Av Go.ChangeShapes Go.WideShapes Go.ChangeAt Go.RowKit
section
variable{H:Type} {enc:TypeId×Value→H} {w:World} {base:Nat} {sp:Nat→Bool} {held:Bool}
theorem LO:Tryz.prog.cellsOf 25=1:=by kernel_rfl
theorem Fc:lX enc Tryz.prog w base sp held 25 (fun v=>∃e:List Bytes,v=.vsl 0 false (e.map .str)):=by
 intro fuel cs x h;obtain⟨v,⟨es,h1,rfl⟩,h2⟩:=jy (wd:=0) Tryz.underlying25 coS (by decide) (eM Tryz.underlying9) fuel cs x h;obtain⟨l,rfl⟩:=ke h1;exact⟨_,⟨l,rfl⟩,h2⟩
theorem rG{F:Nat→Nat→Prop}{w:World}{μ:Nat→Option Av.Loc}:∀{n:Nat} {cs:List Value},cs.length=n→(∀i (hi:i<cs.length),∃v:Val,VR F w μ (av v) cs[i])→∃c:List Val,c.length=n∧VRs F w μ (c.map av) cs
 |0,[],_,_=>⟨[],rfl,.nil⟩
 |0,_::_,h,_=>by simp at h
 |n+1,[],h,_=>by simp at h
 |n+1,x::cs,h,hv=>by
  obtain⟨v,h0⟩:=hv 0 (by simp);obtain⟨c,h1,h2⟩:=rG (n:=n) (cs:=cs) (by simpa using h) fun i hi=>hv (i+1) (by simpa using hi);exact⟨v::c,by simp[h1],.cons _ _ _ _ h0 h2⟩
set_option maxRecDepth 100000 in
theorem ez{v:Value}{d:DataW H}{ps:List MemPlace}{r:Reach}{b0:Nat}(hval:Value.okWide Tryz.prog w r b0 27 v)(hd:DataW.Trod enc Tryz.prog w base sp held 27 v d ps):
    ∃c:List Val,c.length=8∧VR (eB w) w noμ (.agg (c.map av)) v:=by
  have hco:Tryz.prog.cellsOf 27=8:=by kernel_rfl
  simp only[Value.okWide,Tryz.underlying27]at hval;obtain⟨cs,rfl,h2,_⟩:=hval;rw[hco]at h2;obtain⟨fuel,hf⟩:=hd;obtain⟨xs,m,_,_,_,hl,hel⟩:=DataW.trod_array Tryz.underlying27 hf;have hcl:(Value.agg cs).cells.toList=cs.toList:=rfl;have h2':cs.toList.length=8:=by simpa using h2
  obtain⟨c,h3,h4⟩:=rG (F:=eB w) (w:=w) (μ:=noμ) (n:=8) (cs:=cs.toList) h2' fun i hi=>by
    have h5:=hel i (by omega);rw[LO,Nat.mul_one,hcl,List.getElem?_eq_getElem (by omega:i<xs.length)]at h5;have h6:(cs.toList.drop i).take 1=[cs.toList[i]]:=by
      rw[List.drop_eq_getElem_cons hi];rfl
    rw[h6]at h5;obtain⟨u,⟨l,rfl⟩,hu⟩:=Fc (enc:=enc) m _ _ h5;refine⟨(false,l),?_⟩;have hu':VRs (eB w) w noμ [.vsl 0 false (l.map .str)] [cs.toList[i]]:=hu;cases hu' with
    |cons _ _ _ _ g _=>exact g
  exact⟨c,h3,.agg _ _ h4⟩
end
theorem jc(a b:List Ln)(n:Bytes):bu (a++b) n=bu a n+bu b n:=by simp[bu]
theorem qn(x:List Val)(n:Bytes):∀ls:List Ln,bu (kept x ls) n≤bu ls n
 | []=>Nat.le_refl _
 | l::ls=>by
  have ih:=qn x n ls;rw[mC]at ih ⊢;rw[List.flatMap_cons,jc,show l::ls=[l]++ls from rfl,jc];have:bu (if(bq x l).2 then [(bq x l).1]else []) n≤bu [l] n:=by
   split
   ·simp[bu,ja,List.filter_cons];split<;>simp
   ·simp[bu]
  omega
theorem CX{ls:List Ln}{n:Bytes}:bu ls n=0↔∀l∈ls,small l.n≠n:=by
 simp[bu,List.filter_eq_nil_iff]
theorem Ae{x:List Val}{ls:List Ln}{n:Bytes}(hn:(aD n).isSome=true)(h:n∉bf x ls):bu (kept x ls) n=0:=
 CX.2 fun q hq e=>h ((ku hn).2 ⟨q,hq,e⟩)
theorem jd(a b:List Ln)(f:Nat):xsP (a++b) f=xsP a f++xsP b f:=by simp[xsP]
theorem tp{ls:List Ln}{n:Bytes}{k:Kd}(hk:aD n=some k)(h:bu ls n=0){f:Nat}(hf:f∈k.fs):xsP ls f=[]:=by
 rw[List.eq_nil_iff_forall_not_mem];intro s hs;obtain⟨hs0,q,hq,e⟩:=ll.1 hs;obtain⟨k',hk',hf'⟩:=oo (l:=q) (f:=f) (by rw[e];exact hs0);exact CX.1 h q hq (CP hk' hk hf' hf)
theorem CY{ls:List Ln}{l:Ln}{k:Kd}(hl:l∈ls)(hk:aD (small l.n)=some k)(h:bu ls (small l.n)≤1){f:Nat}(hf:f∈k.fs):xsP ls f=nz (aK l f):=by
 obtain⟨a,b,rfl⟩:=List.append_of_mem hl;have e:bu (a++l::b) (small l.n)=bu a (small l.n)+(1+bu b (small l.n)):=by
  rw[jc,show l::b=[l]++b from rfl,jc];simp[bu]
 rw[jd,show l::b=[l]++b from rfl,jd,tp hk (show bu a (small l.n)=0 by omega) hf,tp hk (show bu b (small l.n)=0 by omega) hf];simp[xsP]
theorem Kk(s:Bytes):hdB (nz s)=s:=by
 unfold nz;by_cases h:s=[]
 ·rw[if_pos h,h];rfl
 ·rw[if_neg h];rfl
theorem tq{l:Ln}{k:Kd}{f:Nat}(hk:aD (small l.n)=some k)(hf:k.fs=[f]):(ba k l.v).headD []=aK l f:=by
 have h1:=dw hk (n:=0) (f:=f) (by rw[hf];rfl);cases hv:ba k l.v with
 |nil=>rw[hv]at h1;cases h1
 |cons a t=>rw[hv]at h1;exact Option.some.inj h1
theorem Af{ls:List Ln}{W:List Val}(hc:∀n∈aP,bu ls n≤1)(h1:∀f,f<6→hdB (ar W f)=hdB (xsP ls f))(h6:∀f,6≤f→f<8→∀s,s∈ar W f↔s∈xsP ls f){l:Ln}(hl:l∈ls):bq W l=(bare l,true):=by
 cases hk:aD (small l.n)with
 |none=>exact rC hk
 | some k=>
  have hko:=gH hk;have e:bq W l=cK {l with x:=false} k W:=by unfold bq;rw[hk]
  rw[e];unfold cK;cases hm:k.many with
  | true=>
   obtain⟨f,hf,hf6⟩:=hko.2.2.2.2 hm;have hf8:=hko.2.1 f (by rw[hf];simp);have hv:(ba k l.v).headD []=aK l f:=tq hk hf;simp only[if_true,hf,List.headD_cons];show(bare l,((ba k l.v).headD []==([]:Bytes))||inB ((ba k l.v).headD []) (ar W f))=_;rw[hv];by_cases h0:aK l f=[]
   ·rw[h0];rfl
   ·have:inB (aK l f) (ar W f)=true:=cR.2 ((h6 f hf6 hf8 _).2 (ll.2 ⟨h0,l,hl,rfl⟩))
    rw[this,Bool.or_true]
  | false=>
   simp only[Bool.false_eq_true,if_false];have hv:ba k l.v=bw k W:=by
    apply List.ext_getElem?;intro n;by_cases hn:n<k.fs.length
    ·obtain⟨f,hf⟩:∃f,k.fs[n]? =some f:=⟨_,List.getElem?_eq_getElem hn⟩
     have hfm:f∈k.fs:=List.mem_of_getElem? hf;have hf6:f<6:=by
      rcases Nat.lt_or_ge f 6 with h|h
      ·exact h
      ·rw[(tk hk hfm h).1]at hm;cases hm
     rw[dw hk hf,bw,List.getElem?_map,hf,Option.map_some,h1 f hf6,CY hl hk (hc _ (vl hk hm)) hfm,Kk]
    ·rw[List.getElem?_eq_none (by rw[CM];omega),List.getElem?_eq_none (by rw[mB];omega)]
   rw[if_pos hv];rfl
theorem vp{α β:Type}{g:α→List β}{h:α→β}:∀{l:List α},(∀a∈l,g a=[h a])→l.flatMap g=l.map h
 | [],_=>rfl
 |a::l,hg=>by rw[List.flatMap_cons,List.map_cons,hg a (by simp),vp (fun b hb=>hg b (by simp[hb]))];rfl
theorem CZ{W:List Val}{ls:List Ln}(h:∀l∈ls,bq W l=(bare l,true)):kept W ls=ls.map bare:=by
 rw[mC];exact vp fun l hl=>by rw[h l hl];rfl
theorem vq{l a:List Bytes}(h:∀s∈l,s∈a):bR l a=[]:=by
 rw[bR,List.filter_eq_nil_iff];intro s hs;simp[h s hs]
theorem C1{c:Cd}{W:List Val}(hx:br (ar W)=true)(hc:∀n∈aP,bu c.ls n≤1)(h1:∀f,f<6→hdB (ar W f)=hdB (xsP c.ls f))(h6:∀f,f<8→∀s,s∈ar W f↔s∈xsP c.ls f):alike (dL c W) c:=by
 have hk:=CZ (W:=W) (ls:=c.ls) (fun l hl=>Af hc h1 (fun f _ hf=>h6 f hf) hl);have hn:eH W (xsP (kept W c.ls))=[]:=by
  have e:xsP (kept W c.ls)=xsP c.ls:=funext fun f=>by rw[hk,yx]
  rw[e];have e3:∀f,f<8→bC W (xsP c.ls) f=[]:=fun f hf=>by
   unfold bC;rw[vq (fun s hs=>(h6 f hf s).1 hs)];split<;>rfl
  have e0:fA W (xsP c.ls)=[]:=by
   unfold fA;rw[if_neg];rintro⟨q,w⟩;exact w (by rw[h1 0 (by decide),q];rfl)
  have e1:dM W (xsP c.ls)=[]:=by
   unfold dM;rw[if_neg];rintro⟨q1,q2,w⟩;exact w (by rw[h1 1 (by decide),h1 2 (by decide),q1,q2];rfl)
  unfold eH;rw[e0,e1];simp[List.range,List.range.loop,e3]
 refine⟨rfl,?_⟩;show((ng c W).map (·.1)).map bare=_;have hl:ng c W=ei W c.ls:=by
  unfold ng;rw[List.append_assoc,nl hx,hn,List.append_nil]
 rw[hl];show(kept W c.ls).map bare=_;rw[hk,List.map_map];rfl
theorem C2{c:Cd}(h:(ofP c).2=0):∀n∈aP,bu c.ls n≤1:=by
 rw[(of_same c).1]at h;unfold ofR at h;split at h
 ·split at h
  ·rename_i hb
   rw[Bool.and_eq_true]at hb;exact((tg c.ls).1 hb.1).1
  ·cases h
 ·cases h
theorem Ag{c:Cd}(h:(ofP c).2=0):aL c=0∧(ofP c).1=xO c.ls∧br (xO c.ls)=true:=by
 unfold ofP at h ⊢;split at h
 ·rename_i h0
  split at h
  ·rename_i hb
   simp only[Bool.and_eq_true]at hb;rw[if_pos h0,if_pos (by simp[hb])];exact⟨h0,rfl,hb.2.2⟩
  ·cases h
 ·cases h
theorem back{c:Cd}{W:List Val}(h:(ofP c).2=0)(hW:∀f,f<8→ar W f=xO c.ls f):alike (dL c W) c∧(aM c W).2=0∧alike (aM c W).1 c:=by
 obtain⟨h0,_,h2⟩:=Ag h;have hx:br (ar W)=true:=by rw[←h2];exact jM fun f hf=>hW f hf
 have ha:=C1 hx (C2 h) (fun f hf=>by rw[hW f (by omega),xO,xsO,if_neg (by omega)]) (fun f hf s=>by
  rw[hW f hf,xO,xsO];split
  ·exact pC _ _
  ·exact Iff.rfl)
 refine⟨ha,?_⟩;unfold aM;rw[if_pos ⟨h0,hx⟩,if_pos h,if_pos (by rw[jU ha];exact h0)];exact⟨rfl,ha⟩
def eI(x:List Val)(ls:List Ln):List Ln:=(eH x (xsP (kept x ls))).map (·.1)
theorem C3{c:Cd}{x:List Val}(hx:br (ar x)=true):(dL c x).ls=kept x c.ls++eI x c.ls:=by
 show(ng c x).map (·.1)=_;unfold ng eI;rw[List.append_assoc,List.map_append,nl hx];rfl
theorem yz{n:Bytes}(h:small n=n){k:Kd}(hk:aD n=some k){f:Nat}(hf:k.fs=[f])(w:Bytes):aK (lnN n (esc w)).1 f=w:=by
 have hs:aD (small (lnN n (esc w)).1.n)=some k:=by show aD (small n)=_;rw[h];exact hk
 rw[←tq hs hf];have hv:ba k (esc w)=[w]:=by
  have hko:=CO hk;unfold ba dn;rw[hf];cases hp:k.parts with
  |true=>
   have:=(qk (tj w))
   have e:Lib.join [esc w] [59]=esc w:=by simp[Lib.join,List.intercalate]
   rw[e]at this;simp[List.range,List.range.loop,this,atC,eN]
  |false=>simp[List.range,List.range.loop,atC,eN]
 show(ba k (esc w)).headD []=w;rw[hv];rfl
theorem ef{x:List Val}{ls:List Ln}{n:Bytes}{k:Kd}(hk:aD n=some k)(hm:k.many=false)(hc:bu ls n≤1){f:Nat}(hf:f∈k.fs):xsP (kept x ls) f=if n∈bf x ls then nz (hdB (ar x f))else []:=by
 by_cases h:n∈bf x ls
 ·rw[if_pos h]
  obtain⟨q,hq,rfl⟩:=(ku (by rw[hk];rfl)).1 h;obtain⟨l,hl,h2,rfl⟩:=gh.1 hq;have hle:=qn x (small (bq x l).1.n) ls;rw[CY hq hk (by omega) hf,rB (by rw[←ja x l];exact hk) hm hf]
 ·rw[if_neg h];exact mD hk h hf
theorem iG(x:List Val)(ls:List Ln):eI x ls=(fA x (xsP (kept x ls))).map (·.1)++((dM x (xsP (kept x ls))).map (·.1)++((bC x (xsP (kept x ls)) 3).map (·.1)++((bC x (xsP (kept x ls)) 4).map (·.1)++((bC x (xsP (kept x ls)) 5).map (·.1)++((bC x (xsP (kept x ls)) 6).map (·.1)++(bC x (xsP (kept x ls)) 7).map (·.1)))))):=by
 unfold eI eH;simp[List.range,List.range.loop]
theorem mF{ls:List Ln}(n:Bytes):bu ls n≤ls.length:=List.length_filter_le _ _
theorem tu{x:List Val}{now:Nat→List Bytes}:∀l∈(fA x now).map (·.1),l.n=nFN:=by
 intro l hl;unfold fA at hl;split at hl<;>simp at hl;subst hl;rfl
theorem tv{x:List Val}{now:Nat→List Bytes}:∀l∈(dM x now).map (·.1),l.n=nN:=by
 intro l hl;unfold dM at hl;split at hl<;>simp at hl;subst hl;rfl
theorem dE{x:List Val}{now:Nat→List Bytes}{f:Nat}{n:Bytes}(h:eT[f]? =some n):∀l∈(bC x now f).map (·.1),l.n=n:=by
 intro l hl;unfold bC at hl;rw[h]at hl;simp at hl;obtain⟨v,_,rfl⟩:=hl;rfl
theorem eA{ls:List Ln}{m n:Bytes}(h:∀l∈ls,l.n=m)(hm:small m≠n):bu ls n=0:=
 CX.2 fun l hl=>by rw[h l hl];exact hm
theorem xj{x:List Val}(hx:br (ar x)=true){now:Nat→List Bytes}{f:Nat}(hf:f<6):((bC x now f).map (·.1)).length≤1:=by
 unfold bC;split
 ·rw[List.length_map,List.length_map]
  refine Nat.le_trans (List.length_filter_le _ _) ?_;rcases mE hx hf with e|⟨w,_,e⟩<;>rw[e]<;>simp
 ·simp
theorem Ik{x:List Val}{now:Nat→List Bytes}:((fA x now).map (·.1)).length≤1:=by
 unfold fA;split<;>simp
theorem Il{x:List Val}{now:Nat→List Bytes}:((dM x now).map (·.1)).length≤1:=by
 unfold dM;split<;>simp
theorem C4{x:List Val}(hx:br (ar x)=true)(ls:List Ln){n:Bytes}(hn:n∈aP):bu (eI x ls) n≤1:=by
 rw[iG];simp only[jc];generalize xsP (kept x ls)=now;have z0:n≠nFN→bu ((fA x now).map (·.1)) n=0:=fun h=>eA tu (fun e=>h (by rw[←e];rfl));have z1:n≠nN→bu ((dM x now).map (·.1)) n=0:=fun h=>eA tv (fun e=>h (by rw[←e];rfl));have z3:n≠ct→bu ((bC x now 3).map (·.1)) n=0:=fun h=>eA (dE (n:=ct) rfl) (fun e=>h (by rw[←e];rfl));have z4:n≠bg→bu ((bC x now 4).map (·.1)) n=0:=fun h=>eA (dE (n:=bg) rfl) (fun e=>h (by rw[←e];rfl));have z5:n≠bx→bu ((bC x now 5).map (·.1)) n=0:=fun h=>eA (dE (n:=bx) rfl) (fun e=>h (by rw[←e];rfl))
 have z6:n≠bm→bu ((bC x now 6).map (·.1)) n=0:=fun h=>eA (dE (n:=bm) rfl) (fun e=>h (by rw[←e];rfl));have z7:n≠cE→bu ((bC x now 7).map (·.1)) n=0:=fun h=>eA (dE (n:=cE) rfl) (fun e=>h (by rw[←e];rfl));have l0:=Nat.le_trans (mF n) (Ik (x:=x) (now:=now));have l1:=Nat.le_trans (mF n) (Il (x:=x) (now:=now));have l3:=Nat.le_trans (mF n) (xj hx (now:=now) (f:=3) (by decide));have l4:=Nat.le_trans (mF n) (xj hx (now:=now) (f:=4) (by decide));have l5:=Nat.le_trans (mF n) (xj hx (now:=now) (f:=5) (by decide));simp only[aP,List.mem_cons,List.not_mem_nil,or_false]at hn;rcases hn with rfl|rfl|rfl|rfl|rfl
 ·have:=z1 (by decide);have:=z3 (by decide);have:=z4 (by decide);have:=z5 (by decide);have:=z6 (by decide);have:=z7 (by decide);omega
 ·have:=z0 (by decide);have:=z3 (by decide);have:=z4 (by decide);have:=z5 (by decide);have:=z6 (by decide);have:=z7 (by decide);omega
 ·have:=z0 (by decide);have:=z1 (by decide);have:=z4 (by decide);have:=z5 (by decide);have:=z6 (by decide);have:=z7 (by decide);omega
 ·have:=z0 (by decide);have:=z1 (by decide);have:=z3 (by decide);have:=z5 (by decide);have:=z6 (by decide);have:=z7 (by decide);omega
 ·have:=z0 (by decide);have:=z1 (by decide);have:=z3 (by decide);have:=z4 (by decide);have:=z6 (by decide);have:=z7 (by decide);omega
theorem xk{w:Bytes}(h:nz w=[]):w=[]:=by
 unfold nz at h;split at h
 ·assumption
 ·cases h
theorem qo{x:List Val}{ls:List Ln}(h:nFN∈bf x ls)(hc:bu ls nFN≤1):fA x (xsP (kept x ls))=[]:=by
 have e:=ef (x:=x) (ls:=ls) (n:=nFN) (k:=⟨[0],false,false⟩) (by kernel_rfl) rfl hc (f:=0) (by simp);rw[if_pos h]at e;unfold fA;rw[if_neg];rintro⟨q,w⟩;exact w (xk (by rw[←e,q]))
theorem qp{x:List Val}{ls:List Ln}(h:nN∈bf x ls)(hc:bu ls nN≤1):dM x (xsP (kept x ls))=[]:=by
 have e1:=ef (x:=x) (ls:=ls) (n:=nN) (k:=⟨[2,1],true,false⟩) (by kernel_rfl) rfl hc (f:=1) (by simp);have e2:=ef (x:=x) (ls:=ls) (n:=nN) (k:=⟨[2,1],true,false⟩) (by kernel_rfl) rfl hc (f:=2) (by simp);rw[if_pos h]at e1 e2;unfold dM;rw[if_neg];rintro⟨q1,q2,w⟩;exact w (by rw[xk (w:=hdB (ar x 1)) (by rw[←e1,q1]),xk (w:=hdB (ar x 2)) (by rw[←e2,q2])];rfl)
theorem je{x:List Val}(hx:br (ar x)=true){ls:List Ln}{n:Bytes}{f:Nat}{b:Bool}(hk:aD n=some ⟨[f],b,false⟩)(hf:f<6)(h:n∈bf x ls)(hc:bu ls n≤1):bC x (xsP (kept x ls)) f=[]:=by
 have e:=ef (x:=x) (ls:=ls) hk rfl hc (f:=f) (by simp);rw[if_pos h]at e;unfold bC;rw[e];rcases mE hx hf with e0|⟨w,hw0,e0⟩
 ·rw[e0];split<;>rfl
 ·rw[e0]
  have:bR [w] (nz (hdB [w]))=[]:=by
   refine vq fun s hs=>?_;rw[List.mem_singleton.1 hs];show w∈nz w;simp[nz,hw0]
  rw[this];split<;>rfl
theorem xm{x:List Val}(hx:br (ar x)=true){ls:List Ln}{n:Bytes}(hn:n∈aP)(h:n∈bf x ls)(hc:bu ls n≤1):bu (eI x ls) n=0:=by
 rw[iG];simp only[jc];have t0:n=nFN→bu ((fA x (xsP (kept x ls))).map (·.1)) n=0:=fun e=>by rw[qo (by rw[←e];exact h) (by rw[←e];exact hc)];rfl
 have t1:n=nN→bu ((dM x (xsP (kept x ls))).map (·.1)) n=0:=fun e=>by rw[qp (by rw[←e];exact h) (by rw[←e];exact hc)];rfl
 have t3:n=ct→bu ((bC x (xsP (kept x ls)) 3).map (·.1)) n=0:=fun e=>by rw[je hx (n:=n) (b:=true) (by rw[e];rfl) (by decide) h hc];rfl
 have t4:n=bg→bu ((bC x (xsP (kept x ls)) 4).map (·.1)) n=0:=fun e=>by rw[je hx (n:=n) (b:=false) (by rw[e];rfl) (by decide) h hc];rfl
 have t5:n=bx→bu ((bC x (xsP (kept x ls)) 5).map (·.1)) n=0:=fun e=>by rw[je hx (n:=n) (b:=false) (by rw[e];rfl) (by decide) h hc];rfl
 generalize xsP (kept x ls)=now at*;have z0:n≠nFN→bu ((fA x now).map (·.1)) n=0:=fun h=>eA tu (fun e=>h (by rw[←e];rfl));have z1:n≠nN→bu ((dM x now).map (·.1)) n=0:=fun h=>eA tv (fun e=>h (by rw[←e];rfl));have z3:n≠ct→bu ((bC x now 3).map (·.1)) n=0:=fun h=>eA (dE (n:=ct) rfl) (fun e=>h (by rw[←e];rfl));have z4:n≠bg→bu ((bC x now 4).map (·.1)) n=0:=fun h=>eA (dE (n:=bg) rfl) (fun e=>h (by rw[←e];rfl));have z5:n≠bx→bu ((bC x now 5).map (·.1)) n=0:=fun h=>eA (dE (n:=bx) rfl) (fun e=>h (by rw[←e];rfl))
 have z6:n≠bm→bu ((bC x now 6).map (·.1)) n=0:=fun h=>eA (dE (n:=bm) rfl) (fun e=>h (by rw[←e];rfl));have z7:n≠cE→bu ((bC x now 7).map (·.1)) n=0:=fun h=>eA (dE (n:=cE) rfl) (fun e=>h (by rw[←e];rfl));have a0:=(Decidable.em (n=nFN)).elim t0 z0;have a1:=(Decidable.em (n=nN)).elim t1 z1;have a3:=(Decidable.em (n=ct)).elim t3 z3;have a4:=(Decidable.em (n=bg)).elim t4 z4;have a5:=(Decidable.em (n=bx)).elim t5 z5;have a6:=z6 (fun e=>by rw[e]at hn;revert hn;decide);have a7:=z7 (fun e=>by rw[e]at hn;revert hn;decide);omega
theorem kd5{n:Bytes}(hn:n∈aP):(aD n).isSome=true:=by
 simp only[aP,List.mem_cons,List.not_mem_nil,or_false]at hn;rcases hn with rfl|rfl|rfl|rfl|rfl<;>rfl
theorem C5{x:List Val}(hx:br (ar x)=true){ls:List Ln}(hc:∀n∈aP,bu ls n≤1){n:Bytes}(hn:n∈aP):bu (kept x ls++eI x ls) n≤1:=by
 rw[jc];have h1:=qn x n ls;have h2:=hc n hn;by_cases h:n∈bf x ls
 ·have:=xm hx hn h h2;omega
 ·have:=Ae (x:=x) (ls:=ls) (kd5 hn) h
  have:=C4 hx ls hn;omega
theorem Fe(a b:Bytes):aY 59 (esc a++[59]++esc b++[59,59,59])=[esc a,esc b,[],[],[]]:=by
 have h:isP [esc a,esc b,[],[],[]]:=jS a (jS b (jS [] (jS [] (tj []))));have e:=qk h;have j:Lib.join [esc a,esc b,[],[],[]] [59]=esc a++[59]++esc b++[59,59,59]:=by simp[Lib.join,List.intercalate]
 rw[j]at e;exact e
theorem C6(a b:Bytes):aK (lnN nN (esc a++[59]++esc b++[59,59,59])).1 2=a∧aK (lnN nN (esc a++[59]++esc b++[59,59,59])).1 1=b:=by
 have hk:aD (small (lnN nN (esc a++[59]++esc b++[59,59,59])).1.n)=some ⟨[2,1],true,false⟩:=by show aD (small nN)=_;kernel_rfl
 have h2:=dw hk (n:=0) (f:=2) rfl;have h1:=dw hk (n:=1) (f:=1) rfl;have hv:ba ⟨[2,1],true,false⟩ (esc a++[59]++esc b++[59,59,59])=[a,b]:=by
  unfold ba dn;rw[if_pos rfl,Fe];simp[List.range,List.range.loop,atC,eN]
 rw[show(lnN nN (esc a++[59]++esc b++[59,59,59])).1.v=esc a++[59]++esc b++[59,59,59]from rfl,hv]at h1 h2;exact⟨(Option.some.inj h2).symm,(Option.some.inj h1).symm⟩
theorem xn{ls:List Ln}{m:Bytes}{k:Kd}(h:∀l∈ls,l.n=m)(hk:aD (small m)=some k){f:Nat}(hf:f∉k.fs):xsP ls f=[]:=by
 rw[List.eq_nil_iff_forall_not_mem];intro s hs;obtain⟨hs0,q,hq,e⟩:=ll.1 hs;exact hs0 (by rw[←e];exact pz (by rw[h q hq];exact hk) hf)
theorem yA{x:List Val}{now:Nat→List Bytes}{f:Nat}(hf:f≠0):xsP ((fA x now).map (·.1)) f=[]:=xn (k:=⟨[0],false,false⟩) tu (by kernel_rfl) (by simpa using hf)
theorem yB{x:List Val}{now:Nat→List Bytes}{f:Nat}(h1:f≠1)(h2:f≠2):xsP ((dM x now).map (·.1)) f=[]:=xn (k:=⟨[2,1],true,false⟩) tv (by kernel_rfl) (by simp;omega)
theorem mG{x:List Val}{now:Nat→List Bytes}{f g:Nat}{n:Bytes}(h8:eT[g]? =some n){b m:Bool}(hk:aD (small n)=some ⟨[g],b,m⟩)(h:f≠g):xsP ((bC x now g).map (·.1)) f=[]:=xn (dE h8) hk (by simpa using h)
theorem xs3{x:List Val}{now:Nat→List Bytes}{f:Nat}(h:f≠3):xsP ((bC x now 3).map (·.1)) f=[]:=mG (n:=ct) rfl (b:=true) (m:=false) (by kernel_rfl) h
theorem xs4{x:List Val}{now:Nat→List Bytes}{f:Nat}(h:f≠4):xsP ((bC x now 4).map (·.1)) f=[]:=mG (n:=bg) rfl (b:=false) (m:=false) (by kernel_rfl) h
theorem xs5{x:List Val}{now:Nat→List Bytes}{f:Nat}(h:f≠5):xsP ((bC x now 5).map (·.1)) f=[]:=mG (n:=bx) rfl (b:=false) (m:=false) (by kernel_rfl) h
theorem xs6{x:List Val}{now:Nat→List Bytes}{f:Nat}(h:f≠6):xsP ((bC x now 6).map (·.1)) f=[]:=mG (n:=bm) rfl (b:=false) (m:=true) (by kernel_rfl) h
theorem xs7{x:List Val}{now:Nat→List Bytes}{f:Nat}(h:f≠7):xsP ((bC x now 7).map (·.1)) f=[]:=mG (n:=cE) rfl (b:=false) (m:=true) (by kernel_rfl) h
theorem Ff(x:List Val)(ls:List Ln):xsP (eI x ls) 0=xsP ((fA x (xsP (kept x ls))).map (·.1)) 0:=by
 rw[iG];simp only[jd];rw[yB (by decide) (by decide),xs3 (by decide),xs4 (by decide),xs5 (by decide),xs6 (by decide),xs7 (by decide)];simp
theorem C7(x:List Val)(ls:List Ln){f:Nat}(hf:f=1∨f=2):xsP (eI x ls) f=xsP ((dM x (xsP (kept x ls))).map (·.1)) f:=by
 rw[iG];simp only[jd];rw[yA (by omega),xs3 (by omega),xs4 (by omega),xs5 (by omega),xs6 (by omega),xs7 (by omega)];simp
theorem yC(x:List Val)(ls:List Ln){f:Nat}(h3:3≤f)(h8:f<8):xsP (eI x ls) f=xsP ((bC x (xsP (kept x ls)) f).map (·.1)) f:=by
 rw[iG];simp only[jd];rw[yA (by omega),yB (by omega) (by omega)];have:f=3∨f=4∨f=5∨f=6∨f=7:=by omega
 rcases this with rfl|rfl|rfl|rfl|rfl
 ·rw[xs4 (by decide),xs5 (by decide),xs6 (by decide),xs7 (by decide)];simp
 ·rw[xs3 (by decide),xs5 (by decide),xs6 (by decide),xs7 (by decide)];simp
 ·rw[xs3 (by decide),xs4 (by decide),xs6 (by decide),xs7 (by decide)];simp
 ·rw[xs3 (by decide),xs4 (by decide),xs5 (by decide),xs7 (by decide)];simp
 ·rw[xs3 (by decide),xs4 (by decide),xs5 (by decide),xs6 (by decide)];simp
theorem xo{x:List Val}(hx:br (ar x)=true){f:Nat}(hf:f<6):nz (hdB (ar x f))=ar x f:=by
 rcases mE hx hf with e|⟨w,h,e⟩
 ·rw[e];rfl
 ·rw[e];show nz w=[w];unfold nz;rw[if_neg h]
theorem yD(l:Ln)(f:Nat):xsP [l] f=nz (aK l f):=by simp[xsP]
theorem Im{x:List Val}(hx:br (ar x)=true){ls:List Ln}(hc:bu ls nFN≤1):xsP (kept x ls++eI x ls) 0=ar x 0:=by
 have hk:aD nFN=some ⟨[0],false,false⟩:=by kernel_rfl
 rw[jd,Ff,←xo hx (f:=0) (by decide)];have e:=ef (x:=x) (ls:=ls) hk rfl hc (f:=0) (by simp);by_cases h:nFN∈bf x ls
 ·rw[qo h hc,e,if_pos h];simp[xsP]
 ·rw[if_neg h]at e
  rw[e,List.nil_append];unfold fA;by_cases w:hdB (ar x 0)=[]
  ·rw[if_neg (fun q=>q.2 w),w];rfl
  ·rw[if_pos ⟨e,w⟩]
   show xsP [(lnN nFN (esc (hdB (ar x 0)))).1] 0=_;rw[yD,yz (n:=nFN) (k:=⟨[0],false,false⟩) rfl rfl rfl]
theorem Fg{x:List Val}(hx:br (ar x)=true){ls:List Ln}(hc:bu ls nN≤1){f:Nat}(hf:f=1∨f=2):xsP (kept x ls++eI x ls) f=ar x f:=by
 have hk:aD nN=some ⟨[2,1],true,false⟩:=by kernel_rfl
 rw[jd,C7 _ _ hf,←xo hx (f:=f) (by omega)];have e1:=ef (x:=x) (ls:=ls) hk rfl hc (f:=1) (by simp);have e2:=ef (x:=x) (ls:=ls) hk rfl hc (f:=2) (by simp);by_cases h:nN∈bf x ls
 ·rw[if_pos h]at e1 e2
  rw[qp h hc];rcases hf with rfl|rfl
  ·rw[e1];simp[xsP]
  ·rw[e2];simp[xsP]
 ·rw[if_neg h]at e1 e2
  have e:xsP (kept x ls) f=[]:=by rcases hf with rfl|rfl<;>assumption
  rw[e,List.nil_append];unfold dM;by_cases w:hdB (ar x 1)++hdB (ar x 2)=[]
  ·rw[if_neg (fun q=>q.2.2 w)]
   rw[List.append_eq_nil_iff]at w;rcases hf with rfl|rfl
   ·rw[w.1];rfl
   ·rw[w.2];rfl
  ·rw[if_pos ⟨e1,e2,w⟩]
   show xsP [(lnN nN (esc (hdB (ar x 2))++[59]++esc (hdB (ar x 1))++[59,59,59])).1] f=_;rw[yD];rcases hf with rfl|rfl
   ·rw[(C6 _ _).2]
   ·rw[(C6 _ _).1]
theorem vr{x:List Val}{now:Nat→List Bytes}{f:Nat}{n:Bytes}(h8:eT[f]? =some n){k:Kd}(hn:small n=n)(hk:aD n=some k)(hf:k.fs=[f]):xsP ((bC x now f).map (·.1)) f=(bR (ar x f) (now f)).flatMap nz:=by
 unfold bC;rw[h8];show xsP (((bR (ar x f) (now f)).map fun v=>lnN n (esc v)).map (·.1)) f=_;rw[xsP,List.map_map,List.flatMap_map];congr 1;funext v;show nz (aK (lnN n (esc v)).1 f)=nz v;rw[yz hn hk hf]
theorem xp{x:List Val}(hx:br (ar x)=true){ls:List Ln}{n:Bytes}{f:Nat}{b:Bool}(h8:eT[f]? =some n)(hn:small n=n)(hk:aD n=some ⟨[f],b,false⟩)(h3:3≤f)(hf:f<6)(hc:bu ls n≤1):xsP (kept x ls++eI x ls) f=ar x f:=by
 rw[jd,yC _ _ h3 (by omega)];have e:=ef (x:=x) (ls:=ls) hk rfl hc (f:=f) (by simp);by_cases h:n∈bf x ls
 ·rw[je hx hk hf h hc,e,if_pos h,xo hx hf];simp[xsP]
 ·rw[if_neg h]at e
  rw[vr h8 hn hk rfl,e,List.nil_append];rcases mE hx hf with e0|⟨w,hw,e0⟩
  ·rw[e0];rfl
  ·rw[e0];simp[bR,nz,hw]
theorem Fh{x:List Val}{ls:List Ln}{f:Nat}(h6:6≤f){s:Bytes}(h:s∈xsP (kept x ls) f):s∈ar x f:=by
 obtain⟨hs,q,hq,e⟩:=ll.1 h;obtain⟨l,hl,h2,rfl⟩:=gh.1 hq;obtain⟨k,hk,hf⟩:=oo (l:=(bq x l).1) (f:=f) (by rw[e];exact hs);rw[ja]at hk;obtain⟨hm,hg⟩:=tk hk hf h6;rw[nj hk hm]at e;have e':aK l f=s:=e;have h3:bq x l=cK {l with x:=false} k x:=by unfold bq;rw[hk]
 rw[h3]at h2;unfold cK at h2;rw[if_pos hm]at h2;have hv:(ba k l.v).headD []=s:=by rw[tq hk hg];exact e'
 have h4:(((ba k l.v).headD []==([]:Bytes))||inB ((ba k l.v).headD []) (ar x (k.fs.headD 0)))=true:=h2;rw[hv,hg]at h4;rcases Bool.or_eq_true _ _ ▸ h4 with h5|h5
 ·exact(hs (by simpa using h5)).elim
 ·exact cR.1 h5
theorem C8{x:List Val}(hx:br (ar x)=true){ls:List Ln}{n:Bytes}{f:Nat}{b m:Bool}(h8:eT[f]? =some n)(hn:small n=n)(hk:aD n=some ⟨[f],b,m⟩)(h6:6≤f)(hf:f<8)(s:Bytes):s∈xsP (kept x ls++eI x ls) f↔s∈ar x f:=by
 rw[jd,yC _ _ (by omega) hf,vr h8 hn hk rfl,List.mem_append,List.mem_flatMap];constructor
 ·rintro(h|⟨v,hv,h⟩)
  ·exact Fh h6 h
  ·have:v∈ar x f:=(List.mem_filter.1 hv).1
   unfold nz at h;split at h
   ·cases h
   ·rw[List.mem_singleton.1 h];exact this
 ·intro h
  by_cases hs:s∈xsP (kept x ls) f
  ·exact .inl hs
  ·exact .inr ⟨s,List.mem_filter.2 ⟨h,by simp[hs]⟩,by simp[nz,xf hx hf s h]⟩
theorem yE{x:List Val}(hx:br (ar x)=true){ls:List Ln}(hc:∀n∈aP,bu ls n≤1){f:Nat}(hf:f<6):xsP (kept x ls++eI x ls) f=ar x f:=by
 have:f=0∨(f=1∨f=2)∨f=3∨f=4∨f=5:=by omega
 rcases this with rfl|h|rfl|rfl|rfl
 ·exact Im hx (hc _ (by simp[aP]))
 ·exact Fg hx (hc _ (by simp[aP])) h
 ·exact xp hx (n:=ct) (b:=true) rfl rfl rfl (by decide) (by decide) (hc _ (by simp[aP]))
 ·exact xp hx (n:=bg) (b:=false) rfl rfl rfl (by decide) (by decide) (hc _ (by simp[aP]))
 ·exact xp hx (n:=bx) (b:=false) rfl rfl rfl (by decide) (by decide) (hc _ (by simp[aP]))
theorem yF:∀l:List Bytes,kX l=true→List.Pairwise (fun a b:Bytes=>a<b) l
 | [],_=>.nil
 | [x],_=>by simp
 |x::y::t,h=>by
  rw[kX,Bool.and_eq_true,oe,decide_eq_true_eq]at h;have ih:=yF (y::t) h.2;refine List.pairwise_cons.2 ⟨fun b hb=>?_,ih⟩;rcases List.mem_cons.1 hb with rfl|hb
  ·exact h.1
  ·exact List.lt_trans h.1 ((List.pairwise_cons.1 ih).1 b hb)
theorem Fi{x:List Val}(h:br (ar x)=true){f:Nat}(hf:f<8):kX (ar x f)=true:=by
 unfold br at h;simp only[Bool.and_eq_true,List.all_eq_true,List.mem_range]at h;have:=h.1 f hf;simp only[dp,Bool.and_eq_true]at this;exact this.2.2
theorem yG{x:List Val}(hx:br (ar x)=true){ls:List Ln}(hc:∀n∈aP,bu ls n≤1){f:Nat}(hf:f<8):xO (kept x ls++eI x ls) f=ar x f:=by
 rw[xO,xsO];by_cases h:f<6
 ·rw[if_neg (by omega)];exact yE hx hc h
 ·rw[if_pos (by omega)]
  refine ya (pD _) (yF _ (Fi hx hf)) fun s=>?_;rw[pC];have:f=6∨f=7:=by omega
  rcases this with rfl|rfl
  ·exact C8 hx (n:=bm) (b:=false) (m:=true) rfl rfl rfl (by decide) (by decide) s
  ·exact C8 hx (n:=cE) (b:=false) (m:=true) rfl rfl rfl (by decide) (by decide) s
theorem yH{c:Cd}{x:List Val}(hx:br (ar x)=true)(hc:∀n∈aP,bu c.ls n≤1)(h0:aL (dL c x)=0):(ofP (dL c x)).2=0∧∀f,f<8→ar (bc (ofP (dL c x)).1) f=ar x f:=by
 have hl:(dL c x).ls=kept x c.ls++eI x c.ls:=C3 hx;have hk:br (xR (dL c x).ls)=true:=by
  rw[←hx];exact jM fun f hf=>by rw[←xd _ hf,hl,yG hx hc hf]
 have hfn:0<bu (dL c x).ls nFN:=by
  refine Nat.pos_of_ne_zero fun e=>?_;have h1:=tp (ls:=(dL c x).ls) (n:=nFN) (k:=⟨[0],false,false⟩) (by kernel_rfl) e (f:=0) (by simp);rw[hl,yE hx hc (by decide)]at h1;have h2:=hx;unfold br at h2;rw[Bool.and_eq_true,h1]at h2;simp at h2
 have hb:(List.range 5).all (fun k=>!fy (dL c x).ls k)=true:=(tg _).2 ⟨fun n hn=>by rw[hl];exact C5 hx hc hn,hfn⟩;have h2:(ofP (dL c x)).2=0:=by
  rw[(of_same _).1];unfold ofR;rw[if_pos h0,hb,hk];rfl
 refine⟨h2,fun f hf=>?_⟩;rw[ix _ hf,(Ag h2).2.1,hl,yG hx hc hf]
theorem Io{x:List Val}(h:(qg x).2=0):(ofP (iC x).1).2=0∧gE (bc (ofP (iC x).1).1) x=true:=by
 rw[←(ql x).1]at h;unfold iC at h ⊢;split at h
 ·rename_i hx
  split at h
  ·rename_i h0
   rw[if_pos hx,if_pos h0];obtain⟨h1,h2⟩:=yH hx (c:=⟨ia,true,[]⟩) (fun n _=>by simp[bu]) h0;refine⟨h1,?_⟩;unfold gE;rw[List.all_eq_true];intro f hf;rw[h2 f (List.mem_range.1 hf)];simp
  ·cases h
 ·cases h
set_option maxRecDepth 8000 in
theorem cardsNew(x:List Val)(hx:x.length=8):aa Tryz.prog 7 [.agg (x.map av)] (.ret (.bool true)):=by
 have hf:=CW x hx;have hk:=qj;have hp:=LG x hx;have hr:=Ka x hx;have hs:=tn (iC x).1 (qg x).1;rw[jb (ql x).2]at hs;rw[(ql x).1]at hp;have ho:=lb (iC x).1;have hq:=og (bc (ofP (iC x).1).1) x (bM _) hx;have h0:=Io (x:=x);have hoh:=aJ (bc (ofP (iC x).1).1);have hlen:((bc (ofP (iC x).1).1).map av).length=8:=by rw[List.length_map,bM]
 have hoc:=fo (bc (ofP (iC x).1).1);generalize gE (bc (ofP (iC x).1).1) x=sk at*;generalize(bc (ofP (iC x).1).1).map av=Y at*;generalize(ofP (iC x).1).2=D at*;generalize(qg x).2=E at*;generalize(iC x).1=o at*;generalize(qg x).1=p at*;generalize qm x=fb at*;obtain⟨over,ofx,ols⟩:=o;obtain⟨pver,pfx,pls⟩:=p;have hOh:=aN ols;have hPh:=aN pls;have hxh:=aJ x;have hxc:(x.map av).length=8:=by simp[hx]
 simp only[aS]at hp hr hs ho ⊢;generalize ols.map aq=OL at*;generalize pls.map aq=PL at*;generalize x.map av=X at*;have hldx:∀Z,al Tryz.prog 27 (.ptr 0 0) (.cells X false::Z)=some (.agg X):=by
  intro Z;simp[gQ,ldG,hxc];exact List.take_of_length_le (by omega)
 have hsty:∀A B C,aE Tryz.prog 27 (.ptr 3 0) (.agg Y) [A,B,C,.cells [.nilsl,.nilsl,.nilsl,.nilsl,.nilsl,.nilsl,.nilsl,.nilsl] false]=some [A,B,C,.cells Y false]:=by
  intro A B C;exact dZ (vs:=bK) rfl rfl hlen hoc rfl
 have hldy:∀A B C Z,al Tryz.prog 27 (.ptr 3 0) (A::B::C::.cells Y false::Z)=some (.agg Y):=by
  intro A B C Z;simp[gQ,ldG,hlen];exact List.take_of_length_le (by omega)
 refine aa.of Tryz.func7 rfl (ab enters Tryz.func7 rfl) (by simp[Tryz.ntmps7]) ?_;show W Tryz.prog 50 0 none _ _ _;refine W.vc (by decide) ?_;cases fb with
 |false=>
  repeat'(first|(simp(disch:=first|omega|(simp only[zL];omega))only[go_sem,seval,hldx])|((with_reducible first|apply aj.pure|apply an.pure);(with_reducible assumption);(first|rfl|simp only[go_sem,hxh])))
  exact⟨_,rfl,_,rfl,.refl _⟩
 | true=>
  by_cases hE:E=0
  ·obtain⟨rfl,rfl⟩:=h0 hE
   subst hE
   repeat'(first|(simp(disch:=first|omega|(simp only[zL];omega))only[go_sem,seval,hldx,hsty,hldy,beq_self_eq_true])|((with_reducible first|apply aj.pure|apply an.pure);(with_reducible assumption);(first|rfl|simp only[go_sem,hxh,hOh,hPh,hoh])))
   exact⟨_,rfl,_,rfl,.refl _⟩
  ·have hb:((E:Nat):Int)≠0:=by omega
   repeat'(first|(simp(disch:=first|omega|(simp only[zL];omega))only[go_sem,seval,hldx,hb,beq_self_eq_true])|((with_reducible first|apply aj.pure|apply an.pure);(with_reducible assumption);(first|rfl|simp only[go_sem,hxh,hOh,hPh])))
   exact⟨_,rfl,_,rfl,.refl _⟩
theorem iH{c:Cd}{x:List Val}(h:(aM c x).2=0):(ofP (aM c x).1).2=0∧∀f,f<8→ar (bc (ofP (aM c x).1).1) f=ar x f:=by
 unfold aM at h ⊢;split at h
 ·rename_i h0
  split at h
  ·rename_i h1
   split at h
   ·rename_i h2
    rw[if_pos h0,if_pos h1,if_pos h2];exact yH h0.2 (C2 h1) h2
   ·cases h
  ·rename_i h1;exact(h1 h).elim
 ·cases h
theorem vt{a b:List Val}(h:∀f,f<8→ar a f=ar b f):gE a b=true:=by
 unfold gE;rw[List.all_eq_true];intro f hf;rw[h f (List.mem_range.1 hf)];simp
theorem qs{c:Cd}{x:List Val}(h:(aM c x).2=0):(aM (aM c x).1 x).2=0∧alike (aM (aM c x).1 x).1 (aM c x).1:=by
 obtain⟨h1,h2⟩:=iH h;refine(back h1 fun f hf=>?_).2;rw[←h2 f hf,ix _ hf,(Ag h1).2.1]
set_option maxRecDepth 8000 in
theorem cardsTwice(c:Cd)(x:List Val)(hx:x.length=8)(y:List Val)(hy:y.length=8):aa Tryz.prog 6 [aS c,.agg (x.map av),.agg (y.map av)] (.ret (.bool true)):=by
 have hl:=ti c;have hf:=CW x hx;have hg:=CW y hy;have hk:=qj;have h1:=qd c x hx;have h2:=qd (aM c x).1 x hx;have h3:=qd (aM c x).1 y hy;have hs:=tn (aM (aM c x).1 x).1 (aM c x).1;have ho:=lb (aM (aM c x).1 y).1;have hq:=og (bc (ofP (aM (aM c x).1 y).1).1) y (bM _) hy;have a1:(aM c x).2=0→(aM (aM c x).1 x).2=0∧jT (aM (aM c x).1 x).1 (aM c x).1=true:=fun h=>⟨(qs h).1,jb (qs h).2⟩;have a2:(aM (aM c x).1 y).2=0→(ofP (aM (aM c x).1 y).1).2=0∧gE (bc (ofP (aM (aM c x).1 y).1).1) y=true:=fun h=>⟨(iH h).1,vt (iH h).2⟩;have hoh:=aJ (bc (ofP (aM (aM c x).1 y).1).1)
 have hlen:((bc (ofP (aM (aM c x).1 y).1).1).map av).length=8:=by rw[List.length_map,bM]
 have hoc:=fo (bc (ofP (aM (aM c x).1 y).1).1);generalize gE (bc (ofP (aM (aM c x).1 y).1).1) y=sk at*;generalize(bc (ofP (aM (aM c x).1 y).1).1).map av=Y at*;generalize(ofP (aM (aM c x).1 y).1).2=D at*;generalize jT (aM (aM c x).1 x).1 (aM c x).1=sc at*;generalize(aM (aM c x).1 x).2=E2 at*;generalize(aM (aM c x).1 x).1=p at*;generalize(aM (aM c x).1 y).2=E3 at*;generalize(aM (aM c x).1 y).1=q at*;generalize(aM c x).2=E1 at*;generalize(aM c x).1=o at*;generalize gg c=la at*;generalize qm x=fb at*;generalize qm y=fc at*;obtain⟨ver,fx,ls⟩:=c;obtain⟨over,ofx,ols⟩:=o;obtain⟨pver,pfx,pls⟩:=p
 obtain⟨qver,qfx,qls⟩:=q;have hLh:=aN ls;have hOh:=aN ols;have hPh:=aN pls;have hQh:=aN qls;have hxh:=aJ x;have hyh:=aJ y;have hxc:(x.map av).length=8:=by simp[hx]
 have hyc:(y.map av).length=8:=by simp[hy]
 simp only[aS]at hl h1 h2 h3 hs ho ⊢;generalize ls.map aq=L at*;generalize ols.map aq=OL at*;generalize pls.map aq=PL at*;generalize qls.map aq=QL at*;generalize x.map av=X at*;generalize y.map av=X2 at*;have hldx:∀A Z,al Tryz.prog 27 (.ptr 1 0) (A::.cells X false::Z)=some (.agg X):=by
  intro A Z;simp[gQ,ldG,hxc];exact List.take_of_length_le (by omega)
 have hldz:∀A B Z,al Tryz.prog 27 (.ptr 2 0) (A::B::.cells X2 false::Z)=some (.agg X2):=by
  intro A B Z;simp[gQ,ldG,hyc];exact List.take_of_length_le (by omega)
 have hsty:∀A B C D E F,aE Tryz.prog 27 (.ptr 6 0) (.agg Y) [A,B,C,D,E,F,.cells [.nilsl,.nilsl,.nilsl,.nilsl,.nilsl,.nilsl,.nilsl,.nilsl] false]=some [A,B,C,D,E,F,.cells Y false]:=by
  intro A B C D E F;exact dZ (vs:=bK) rfl rfl hlen hoc rfl
 have hldy:∀A B C D E F Z,al Tryz.prog 27 (.ptr 6 0) (A::B::C::D::E::F::.cells Y false::Z)=some (.agg Y):=by
  intro A B C D E F Z;simp[gQ,ldG,hlen];exact List.take_of_length_le (by omega)
 refine aa.of Tryz.func6 rfl (ab enters Tryz.func6 rfl) (by simp[Tryz.ntmps6]) ?_;show W Tryz.prog 76 0 none _ _ _;refine W.vc (by decide) ?_;cases la with
 |false=>
  repeat'(first|(simp(disch:=first|omega|(simp only[zL];omega))only[go_sem,seval,hldx,hldz])|((with_reducible first|apply aj.pure|apply an.pure);(with_reducible assumption);(first|rfl|simp only[go_sem,hLh,hxh,hyh])))
  exact⟨_,rfl,_,rfl,.refl _⟩
 | true=>
  cases fb with
  |false=>
   repeat'(first|(simp(disch:=first|omega|(simp only[zL];omega))only[go_sem,seval,hldx,hldz])|((with_reducible first|apply aj.pure|apply an.pure);(with_reducible assumption);(first|rfl|simp only[go_sem,hLh,hxh,hyh])))
   exact⟨_,rfl,_,rfl,.refl _⟩
  | true=>
   cases fc with
   |false=>
    repeat'(first|(simp(disch:=first|omega|(simp only[zL];omega))only[go_sem,seval,hldx,hldz])|((with_reducible first|apply aj.pure|apply an.pure);(with_reducible assumption);(first|rfl|simp only[go_sem,hLh,hxh,hyh])))
    exact⟨_,rfl,_,rfl,.refl _⟩
   | true=>
    by_cases e1:E1=0
    ·obtain⟨rfl,rfl⟩:=a1 e1
     subst e1;by_cases e3:E3=0
     ·obtain⟨rfl,rfl⟩:=a2 e3
      subst e3
      repeat'(first|(simp(disch:=first|omega|(simp only[zL];omega))only[go_sem,seval,hldx,hldz,hsty,hldy,beq_self_eq_true])|((with_reducible first|apply aj.pure|apply an.pure);(with_reducible assumption);(first|rfl|simp only[go_sem,hLh,hxh,hyh,hOh,hPh,hQh,hoh])))
      exact⟨_,rfl,_,rfl,.refl _⟩
     ·have hb:((E3:Nat):Int)≠0:=by omega
      repeat'(first|(simp(disch:=first|omega|(simp only[zL];omega))only[go_sem,seval,hldx,hldz,hb,beq_self_eq_true])|((with_reducible first|apply aj.pure|apply an.pure);(with_reducible assumption);(first|rfl|simp only[go_sem,hLh,hxh,hyh,hOh,hPh,hQh])))
      exact⟨_,rfl,_,rfl,.refl _⟩
    ·have hb:((E1:Nat):Int)≠0:=by omega
     repeat'(first|(simp(disch:=first|omega|(simp only[zL];omega))only[go_sem,seval,hldx,hldz,hb,beq_self_eq_true])|((with_reducible first|apply aj.pure|apply an.pure);(with_reducible assumption);(first|rfl|simp only[go_sem,hLh,hxh,hyh,hOh])))
     exact⟨_,rfl,_,rfl,.refl _⟩
def nsL(l:Ln):Bool:=(aD (small l.n)).isNone
theorem Kl{a b:Ln}(h:a.n=b.n):nsL a=nsL b:=by unfold nsL;rw[h]
theorem yI(x:List Val):∀ls:List Ln,(kept x ls).filter nsL=(ls.filter nsL).map bare
 | []=>rfl
 | l::ls=>by
  have ih:=yI x ls;rw[mC]at ih ⊢;rw[List.flatMap_cons,List.filter_append,ih];have hn:nsL (bq x l).1=nsL l:=Kl (ja x l);cases hk:aD (small l.n)with
  |none=>
   have e:nsL l=true:=by simp[nsL,hk]
   have hb:nsL (bare l)=true:=e;rw[rC hk,List.filter_cons,if_pos e];simp[hb]
  |some k=>
   have e:nsL l=false:=by simp[nsL,hk]
   rw[e]at hn;rw[List.filter_cons,e];cases(bq x l).2<;>simp[hn]
theorem Fj(x:List Val)(ls:List Ln):(eI x ls).filter nsL=[]:=by
 rw[iG,List.filter_eq_nil_iff];intro l hl;simp only[List.mem_append]at hl;have q:∀{n:Bytes},l.n=n→(aD (small n)).isNone=false→¬nsL l=true:=by
  intro n h hk;unfold nsL;rw[h,hk];simp
 rcases hl with h|h|h|h|h|h|h
 ·exact q (tu l h) (by decide)
 ·exact q (tv l h) (by decide)
 ·exact q (dE (f:=3) rfl l h) (by decide)
 ·exact q (dE (f:=4) rfl l h) (by decide)
 ·exact q (dE (f:=5) rfl l h) (by decide)
 ·exact q (dE (f:=6) rfl l h) (by decide)
 ·exact q (dE (f:=7) rfl l h) (by decide)
theorem Fm{c:Cd}{x:List Val}(h:(aM c x).2=0):(aM c x).1.ls.filter nsL=(c.ls.filter nsL).map bare:=by
 unfold aM at h ⊢;split at h
 ·rename_i h0
  split at h
  ·rename_i h1
   split at h
   ·rename_i h2
    rw[if_pos h0,if_pos h1,if_pos h2];rw[C3 h0.2,List.filter_append,yI,Fj,List.append_nil]
   ·cases h
  ·rename_i h1;exact(h1 h).elim
 ·cases h
def ib:List Bytes:=[nFN,nN,ct,bg,bx,bm,cE]
theorem Km(n:Bytes):(aD n).isNone=ib.all (fun m=>!(n==m)):=by
 have h:=kn n;cases hk:aD n with
 |some k=>rw[hk]at h;cases h<;>rfl
 |none=>
  rw[hk]at h;cases h with
  |none _ h1 h2 h3 h4 h5 h6 h7=>simp[ib,h1,h2,h3,h4,h5,h6,h7]
theorem Ip:∀m∈ib,small m=m:=by decide
theorem Iq(a b:Bytes):aa Tryz.prog 19 [.agg [.str [],.str a,.nilsl,.str []],.agg [.str [],.str b,.nilsl,.str []]] (.ret (.bool (small a==small b))):=by
 have h:=xg ⟨[],a,true,[],[]⟩ ⟨[],b,true,[],[]⟩;have e:dr ⟨[],a,true,[],[]⟩ ⟨[],b,true,[],[]⟩=(small a==small b):=by
  simp[dr,eqL]
 rw[e]at h;exact aa.le (.cons _ _ _ _ (.agg _ _ (.cons _ _ _ _ (.refl _) (.cons _ _ _ _ (.refl _) (.cons _ _ _ _ (.nils _ _) (.cons _ _ _ _ (.refl _) .nil))))) (.cons _ _ _ _ (.agg _ _ (.cons _ _ _ _ (.refl _) (.cons _ _ _ _ (.refl _) (.cons _ _ _ _ (.nils _ _) (.cons _ _ _ _ (.refl _) .nil))))) .nil)) h
set_option maxRecDepth 8000 in
theorem yJ(l:Ln):aa Tryz.prog 18 [aq l] (.ret (.bool (!nsL l))):=by
 obtain⟨g,n,lx,ps,v⟩:=l;have hns:nsL ⟨g,n,lx,ps,v⟩=ib.all (fun m=>!(small n==m)):=Km (small n);simp only[aq];rw[hns];have hb:∀m:Bytes,cB Tryz.prog 46 [(1,.str m)]=some (.agg [.str [],.str m,.nilsl,.str []]):=fun m=>by rfl
 have hbs:aw Tryz.prog 25 7 [(0,.str [102,110]),(1,.str [110]),(2,.str [111,114,103]),(3,.str [116,105,116,108,101]),(4,.str [110,111,116,101]),(5,.str [101,109,97,105,108]),(6,.str [116,101,108])]=some (.vsl 0 true (ib.map .str)):=by kernel_rfl
 refine aa.of Tryz.func18 rfl (ab enters Tryz.func18 rfl) (by simp[Tryz.ntmps18]) ?_;show W Tryz.prog 17 0 none _ _ _;refine W.vc (by decide) ?_
 repeat'(first|(simp(disch:=first|omega|(simp only[zL];omega))only[go_sem,seval]))
 refine W.bh (X:=Nat) (fun i=>[(3,.int .i64 (i:Int)),(1,.ptr 0 0)]) (fun _=>[.cells [.str g,.str n,.vsl 3 lx (ps.map aH),.str v] false])
  (fun i=>i≤7∧(ib.drop i).all (fun m=>!(small n==m))=ib.all (fun m=>!(small n==m))) (fun i=>7 - i) 0 ⟨Nat.zero_le _,rfl⟩ ⟨rfl,rfl,trivial⟩ rfl ?_
 rintro i ⟨hi,hE⟩;simp only at hi hE ⊢;refine .vc (by decide) ?_;by_cases h:i<7
 ·obtain⟨m,hm,hd⟩:=drop_at (show i<ib.length from h)
  rw[hd,List.all_cons]at hE;have hia:∀H,ah Tryz.prog 25 (.vsl 0 true (ib.map .str)) (.int .i64 (i:Int)) H=some (.vptr [.str m]):=fun H=>dW (v:=.str m) (by simp[hm]) rfl H;have hc:=Iq n m;rw[Ip m (List.mem_of_getElem? hm)]at hc
  repeat'(first|(simp(disch:=first|omega|(simp only[zL];omega))only[go_sem,seval]))
  refine W.aO [] [false,false,false,false,false,false,false,false,false] [] mixed (by kernel_rfl) (by kernel_rfl) (by kernel_rfl) ?_;cases hb1:small n==m with
  |true=>
   rw[hb1]at hc hE;rw[←hE]
   repeat'(first|(simp(disch:=first|omega|(simp only[zL];omega))only[go_sem,seval,hb,hbs,hia])|((with_reducible first|apply aj.pure|apply an.pure);(with_reducible exact hc);(first|rfl|simp only[go_sem])))
   exact⟨_,rfl,_,rfl,.refl _⟩
  |false=>
   rw[hb1]at hc hE
   repeat'(first|(simp(disch:=first|omega|(simp only[zL];omega))only[go_sem,seval,hb,hbs,hia])|((with_reducible first|apply aj.pure|apply an.pure);(with_reducible exact hc);(first|rfl|simp only[go_sem])))
   exact⟨i+1,⟨by omega,by rw[←hE];rfl⟩,by omega,⟨rfl,rfl,trivial⟩⟩
 ·have e:i=7:=by omega
  subst e;have hE:true=ib.all (fun m=>!(small n==m)):=hE;rw[←hE]
  repeat'(first|(simp(disch:=first|omega|(simp only[zL];omega))only[go_sem,seval]))
  exact⟨_,rfl,_,rfl,.refl _⟩
set_option maxRecDepth 100000 in
theorem cardsBack(c:Cd)(x:List Val)(hx:x.length=8):aa Tryz.prog 5 [aS c,.agg (x.map av)] (.ret (.bool true)):=by
 have hl:=ti c;have hf:=CW x hx;have hk:=qj;have h0:=lb c;obtain⟨B,hW⟩:∃B,B=bc (ofP c).1:=⟨_,rfl⟩
 have hWl:B.length=8:=by rw[hW,bM]
 rw[←hW]at h0;have h1:=qd c B hWl;have h2:=qd c x hx;have hs:=tn (aM c B).1 c;have ho:=lb (aM c x).1;obtain⟨W2,hW2⟩:∃W2,W2=bc (ofP (aM c x).1).1:=⟨_,rfl⟩
 have hW2l:W2.length=8:=by rw[hW2,bM]
 rw[←hW2]at ho;have hq:=og W2 x hW2l hx;have a1:(ofP c).2=0→c.ls.length≤100∧(aM c B).2=0∧jT (aM c B).1 c=true:=fun h=>by
  obtain⟨_,b1,b2⟩:=back h (W:=B) (fun f hf=>by rw[hW,ix _ hf,(Ag h).2.1]);exact⟨(ey (Ag h).1).1,b1,jb b2⟩
 have a2:(aM c x).2=0→(ofP (aM c x).1).2=0∧gE W2 x=true∧(aM c x).1.ls.length≤100∧(aM c x).1.ls.filter nsL=(c.ls.filter nsL).map bare:=fun h=>by
  have h3:=(iH h).1;exact⟨h3,by rw[hW2];exact vt (iH h).2,(ey (Ag h3).1).1,Fm h⟩
 clear hW hW2;generalize(ofP (aM c x).1).2=D at*;generalize(aM c x).2=E3 at*;generalize(aM c x).1=o at*;generalize(ofP c).2=E0 at*;generalize jT (aM c B).1 c=sc at*;generalize(aM c B).2=E1 at*;generalize(aM c B).1=p at*;generalize gg c=la at*;generalize qm x=fb at*;generalize gE W2 x=sk at*;obtain⟨ver,fx,ls⟩:=c;obtain⟨over,ofx,ols⟩:=o;obtain⟨pver,pfx,pls⟩:=p;have hLh:=aN ls;have hOh:=aN ols;have hPh:=aN pls;have hxh:=aJ x;have hWh:=aJ B;have hW2h:=aJ W2;have hxc:(x.map av).length=8:=by simp[hx]
 have hWc:(B.map av).length=8:=by simp[hWl]
 have hW2c:(W2.map av).length=8:=by simp[hW2l]
 have hWi:=fo B;have hW2i:=fo W2;simp only[aS]at hl h0 h1 h2 hs ho a1 a2 ⊢;generalize pls.map aq=PL at*;generalize x.map av=X at*;generalize B.map av=Y at*;generalize W2.map av=Y2 at*;have hldx:∀A Z,al Tryz.prog 27 (.ptr 1 0) (A::.cells X false::Z)=some (.agg X):=by
  intro A Z;simp[gQ,ldG,hxc];exact List.take_of_length_le (by omega)
 have hstw:∀A B,aE Tryz.prog 27 (.ptr 2 0) (.agg Y) [A,B,.cells [.nilsl,.nilsl,.nilsl,.nilsl,.nilsl,.nilsl,.nilsl,.nilsl] false]=some [A,B,.cells Y false]:=by
  intro A B;exact dZ (vs:=bK) rfl rfl hWc hWi rfl
 have hldw:∀A B Z,al Tryz.prog 27 (.ptr 2 0) (A::B::.cells Y false::Z)=some (.agg Y):=by
  intro A B Z;simp[gQ,ldG,hWc];exact List.take_of_length_le (by omega)
 have hsty:∀A B C D E,aE Tryz.prog 27 (.ptr 5 0) (.agg Y2) [A,B,C,D,E,.cells [.nilsl,.nilsl,.nilsl,.nilsl,.nilsl,.nilsl,.nilsl,.nilsl] false]=some [A,B,C,D,E,.cells Y2 false]:=by
  intro A B C D E;exact dZ (vs:=bK) rfl rfl hW2c hW2i rfl
 have hldy:∀A B C D E Z,al Tryz.prog 27 (.ptr 5 0) (A::B::C::D::E::.cells Y2 false::Z)=some (.agg Y2):=by
  intro A B C D E Z;simp[gQ,ldG,hW2c];exact List.take_of_length_le (by omega)
 refine aa.of Tryz.func5 rfl (ab enters Tryz.func5 rfl) (by simp[Tryz.ntmps5]) ?_;show W Tryz.prog 132 0 none _ _ _;refine W.vc (by decide) ?_;cases la with
 |false=>
  repeat'(first|(simp(disch:=first|omega|(simp only[zL];omega))only[go_sem,seval,hldx])|((with_reducible first|apply aj.pure|apply an.pure);(with_reducible assumption);(first|rfl|simp only[go_sem,hLh,hxh])))
  exact⟨_,rfl,_,rfl,.refl _⟩
 | true=>
  cases fb with
  |false=>
   repeat'(first|(simp(disch:=first|omega|(simp only[zL];omega))only[go_sem,seval,hldx])|((with_reducible first|apply aj.pure|apply an.pure);(with_reducible assumption);(first|rfl|simp only[go_sem,hLh,hxh])))
   exact⟨_,rfl,_,rfl,.refl _⟩
  | true=>
   by_cases e0:E0=0
   case neg=>
    have hb:((E0:Nat):Int)≠0:=by omega
    repeat'(first|(simp(disch:=first|omega|(simp only[zL];omega))only[go_sem,seval,hldx,hstw,hldw,hb,beq_self_eq_true])|((with_reducible first|apply aj.pure|apply an.pure);(with_reducible assumption);(first|rfl|simp only[go_sem,hLh,hxh,hWh])))
    exact⟨_,rfl,_,rfl,.refl _⟩
   obtain⟨hlc,rfl,rfl⟩:=a1 e0;subst e0;by_cases e3:E3=0
   case neg=>
    have hb:((E3:Nat):Int)≠0:=by omega
    repeat'(first|(simp(disch:=first|omega|(simp only[zL];omega))only[go_sem,seval,hldx,hstw,hldw,hb,beq_self_eq_true])|((with_reducible first|apply aj.pure|apply an.pure);(with_reducible assumption);(first|rfl|simp only[go_sem,hLh,hxh,hWh,hPh,hOh])))
    exact⟨_,rfl,_,rfl,.refl _⟩
   obtain⟨rfl,rfl,hlo,hns⟩:=a2 e3;subst e3
   try simp only at hlc hlo hns
   repeat'(first|(simp(disch:=first|omega|(simp only[zL];omega))only[go_sem,seval,hldx,hstw,hldw,hsty,hldy,beq_self_eq_true])|((with_reducible first|apply aj.pure|apply an.pure);(with_reducible assumption);(first|rfl|simp only[go_sem,hLh,hxh,hWh,hPh,hOh,hW2h])))
   refine W.bh (X:=Nat×Nat) (fun y=>[(13,.int .i64 (y.2:Int)),(14,.int .i64 (y.1:Int)),(9,.ptr 4 0),(2,.ptr 0 0)]) (fun _=>[.cells [.str ver,.vsl 5 fx (ls.map aq)] false,.cells X false,.cells Y false,.cells [.str pver,.vsl 5 pfx PL] false,.cells [.str over,.vsl 5 ofx (ols.map aq)] false,.cells Y2 false])
    (fun y=>y.1≤ls.length∧y.2≤ols.length∧(ols.drop y.2).filter nsL=((ls.drop y.1).filter nsL).map bare) (fun y=>ls.length - y.1) (0,0) ⟨Nat.zero_le _,Nat.zero_le _,hns⟩ ⟨rfl,rfl,rfl,rfl,trivial⟩ rfl ?_
   rintro⟨i,k⟩ ⟨hi,hkl,hE⟩;simp only at hi hkl hE ⊢;refine .vc (by decide) ?_;by_cases h:i<ls.length
   ·obtain⟨⟨g,n,lx,ps,v⟩,hu,hud⟩:=drop_at h
    have hia:∀H,ah Tryz.prog 22 (.vsl 5 fx (ls.map aq)) (.int .i64 (i:Int)) H=some (.vptr [.str g,.str n,.vsl 3 lx (ps.map aH),.str v]):=fun H=>jj (v:=aq ⟨g,n,lx,ps,v⟩) (by simp[hu]) rfl H;have hsy:=yJ ⟨g,n,lx,ps,v⟩;simp only[aq]at hsy;rw[hud,List.filter_cons]at hE;cases hn:nsL ⟨g,n,lx,ps,v⟩with
    |false=>
     rw[hn]at hE hsy
     repeat'(first|(simp(disch:=first|omega|(simp only[zL];omega))only[go_sem,seval,hia])|((with_reducible first|apply aj.pure|apply an.pure);(with_reducible exact hsy);(first|rfl|simp only[go_sem,az])))
     exact⟨(i+1,k),⟨h,hkl,hE⟩,by simp only;omega,⟨rfl,rfl,rfl,rfl,trivial⟩⟩
    | true=>
     rw[hn]at hE hsy;have hE:(ols.drop k).filter nsL=bare ⟨g,n,lx,ps,v⟩::((ls.drop (i+1)).filter nsL).map bare:=hE
     repeat'(first|(simp(disch:=first|omega|(simp only[zL];omega))only[go_sem,seval,hia])|((with_reducible first|apply aj.pure|apply an.pure);(with_reducible exact hsy);(first|rfl|simp only[go_sem,az])))
     refine W.bh (X:=Nat) (fun k=>[(13,.int .i64 (k:Int)),(14,.int .i64 (i:Int)),(9,.ptr 4 0),(2,.ptr 0 0)]) (fun _=>[.cells [.str ver,.vsl 5 fx (ls.map aq)] false,.cells X false,.cells Y false,.cells [.str pver,.vsl 5 pfx PL] false,.cells [.str over,.vsl 5 ofx (ols.map aq)] false,.cells Y2 false])
      (fun k=>k≤ols.length∧(ols.drop k).filter nsL=bare ⟨g,n,lx,ps,v⟩::((ls.drop (i+1)).filter nsL).map bare) (fun k=>ols.length - k) k ⟨hkl,hE⟩ ⟨rfl,rfl,rfl,rfl,trivial⟩ rfl ?_
     rintro j ⟨hj,hF⟩;simp only at hj hF ⊢;refine .vc (by decide) ?_;by_cases hjl:j<ols.length
     ·obtain⟨q,hv,hvd⟩:=drop_at hjl
      rw[hvd,List.filter_cons]at hF;cases hnq:nsL q with
      |false=>
       obtain⟨g2,n2,x2,p2,v2⟩:=q;have hib:∀H,ah Tryz.prog 22 (.vsl 5 ofx (ols.map aq)) (.int .i64 (j:Int)) H=some (.vptr [.str g2,.str n2,.vsl 3 x2 (p2.map aH),.str v2]):=fun H=>jj (v:=aq ⟨g2,n2,x2,p2,v2⟩) (by simp[hv]) rfl H;have hsq:=yJ ⟨g2,n2,x2,p2,v2⟩;simp only[aq]at hsq;rw[hnq]at hF hsq
       repeat'(first|(simp(disch:=first|omega|(simp only[zL];omega))only[go_sem,seval,hib])|((with_reducible first|apply aj.pure|apply an.pure);(with_reducible exact hsq);(first|rfl|simp only[go_sem,az])))
       exact⟨j+1,⟨hjl,hF⟩,by omega,⟨rfl,rfl,rfl,rfl,trivial⟩⟩
      |true=>
       rw[hnq,if_pos rfl]at hF;injection hF with hF1 hF2
       subst hF1;have hib:∀H,ah Tryz.prog 22 (.vsl 5 ofx (ols.map aq)) (.int .i64 (j:Int)) H=some (.vptr [.str g,.str n,.vsl 3 false (ps.map aH),.str v]):=fun H=>jj (v:=aq (bare ⟨g,n,lx,ps,v⟩)) (by simp[hv]) rfl H;have hsq:=yJ (bare ⟨g,n,lx,ps,v⟩);rw[hnq]at hsq;have hsn:=xg (bare ⟨g,n,lx,ps,v⟩) ⟨g,n,lx,ps,v⟩;have e:dr (bare ⟨g,n,lx,ps,v⟩) ⟨g,n,lx,ps,v⟩=true:=vn ⟨g,n,lx,ps,v⟩;rw[e]at hsn;simp only[aq,bare]at hsq hsn
       repeat'(first|(simp(disch:=first|omega|(simp only[zL];omega))only[go_sem,seval,hib])|((with_reducible first|apply aj.pure|apply an.pure);(with_reducible exact hsq);(first|rfl|simp only[go_sem,az])))
       refine W.aO [] [false,false,false,false,false,false,false,false,false,false,false,false,false,false,false,false,false,false,false] [] mixed (by kernel_rfl) (by kernel_rfl) (by kernel_rfl) ?_
       repeat'(first|(simp(disch:=first|omega|(simp only[zL];omega))only[go_sem,seval,hia,hib])|((with_reducible first|apply aj.pure|apply an.pure);(with_reducible exact hsn);(first|rfl|simp only[go_sem,az])))
       exact⟨(i+1,j+1),⟨h,hjl,hF2⟩,by simp only;omega,⟨rfl,rfl,rfl,rfl,trivial⟩⟩
     ·rw[List.drop_of_length_le (by omega)]at hF
      cases hF
   ·have e:i=ls.length:=by omega
    subst e;rw[List.drop_length]at hE
    repeat'(first|(simp(disch:=first|omega|(simp only[zL];omega))only[go_sem,seval]))
    refine W.bh (X:=Nat) (fun k=>[(13,.int .i64 (k:Int)),(9,.ptr 4 0)]) (fun _=>[.cells [.str ver,.vsl 5 fx (ls.map aq)] false,.cells X false,.cells Y false,.cells [.str pver,.vsl 5 pfx PL] false,.cells [.str over,.vsl 5 ofx (ols.map aq)] false,.cells Y2 false])
     (fun k=>k≤ols.length∧(ols.drop k).filter nsL=[]) (fun k=>ols.length - k) k ⟨hkl,hE⟩ ⟨rfl,rfl,trivial⟩ rfl ?_
    rintro j ⟨hj,hF⟩;simp only at hj hF ⊢;refine .vc (by decide) ?_;by_cases hjl:j<ols.length
    ·obtain⟨⟨g2,n2,x2,p2,v2⟩,hv,hvd⟩:=drop_at hjl
     rw[hvd,List.filter_cons]at hF;have hib:∀H,ah Tryz.prog 22 (.vsl 5 ofx (ols.map aq)) (.int .i64 (j:Int)) H=some (.vptr [.str g2,.str n2,.vsl 3 x2 (p2.map aH),.str v2]):=fun H=>jj (v:=aq ⟨g2,n2,x2,p2,v2⟩) (by simp[hv]) rfl H;have hsq:=yJ ⟨g2,n2,x2,p2,v2⟩;simp only[aq]at hsq;cases hnq:nsL ⟨g2,n2,x2,p2,v2⟩with
     |false=>
      rw[hnq]at hF hsq
      repeat'(first|(simp(disch:=first|omega|(simp only[zL];omega))only[go_sem,seval,hib])|((with_reducible first|apply aj.pure|apply an.pure);(with_reducible exact hsq);(first|rfl|simp only[go_sem,az])))
      exact⟨j+1,⟨hjl,hF⟩,by omega,⟨rfl,rfl,trivial⟩⟩
     |true=>rw[hnq]at hF;cases hF
    ·have e:j=ols.length:=by omega
     subst e
     repeat'(first|(simp(disch:=first|omega|(simp only[zL];omega))only[go_sem,seval])|((with_reducible first|apply aj.pure|apply an.pure);(with_reducible exact hk);(first|rfl|simp only[go_sem])))
     exact⟨_,rfl,_,rfl,.refl _⟩
end Go.Proofs.YtekcidbpejicdaaGreatDoor
