/- Contracts of functions that the statements of this seat reach: under the conditions named at each theorem. -/
import Derived.Test.YtekcidbpejicdaaGreatDoorZaP8
import Derived.Test.YtekcidbpejicdaaGreatDoorZaP10
import Derived.Test.YtekcidbpejicdaaGreatDoorZaP11
import Derived.Test.YtekcidbpejicdaaGreatDoorZaP7
import Derived.Test.YtekcidbpejicdaaGreatDoorZaP9
namespace Go.Proofs.YtekcidbpejicdaaGreatDoor
set_option linter.unusedVariables false
set_option linter.unusedSimpArgs false
open Go Go.Av Go.RowKit
def nFN:Bytes:=[102,110]
def nN:Bytes:=[110]
def ct:Bytes:=[111,114,103]
def bg:Bytes:=[116,105,116,108,101]
def bx:Bytes:=[110,111,116,101]
def bm:Bytes:=[101,109,97,105,108]
def cE:Bytes:=[116,101,108]
structure Kd where
 fs:List Nat
 parts:Bool
 many:Bool
def aD(n:Bytes):Option Kd:=
 if n=nFN then some ⟨[0],false,false⟩else if n=nN then some ⟨[2,1],true,false⟩else if n=ct then some ⟨[3],true,false⟩else if n=bg then some ⟨[4],false,false⟩
 else if n=bx then some ⟨[5],false,false⟩else if n=bm then some ⟨[6],false,true⟩else if n=cE then some ⟨[7],false,true⟩else none
def dn(k:Kd)(v:Bytes):List Bytes:=if k.parts then aY 59 v else [v]
def atC(p:List Bytes)(n:Nat):Bytes:=match p[n]? with|some s=>cq s|none=>[]
def ba(k:Kd)(v:Bytes):List Bytes:=(List.range k.fs.length).map (atC (dn k v))
def jF(v:Bytes)(n:Nat):Bytes:=atC (aY 59 v) n
def aK(l:Ln)(f:Nat):Bytes:=
 if(f=0∧small l.n=nFN)∨(f=4∧small l.n=bg)∨(f=5∧small l.n=bx)∨(f=6∧small l.n=bm)∨(f=7∧small l.n=cE)then cq l.v
 else if(f=2∧small l.n=nN)∨(f=3∧small l.n=ct)then jF l.v 0
 else if f=1∧small l.n=nN then jF l.v 1 else []
inductive KN:Bytes→Option Kd→Prop
 |fn:KN nFN (some ⟨[0],false,false⟩)
 |n:KN nN (some ⟨[2,1],true,false⟩)
 |org:KN ct (some ⟨[3],true,false⟩)
 |title:KN bg (some ⟨[4],false,false⟩)
 |note:KN bx (some ⟨[5],false,false⟩)
 |email:KN bm (some ⟨[6],false,true⟩)
 |tel:KN cE (some ⟨[7],false,true⟩)
 |none (n:Bytes) (h1:n≠nFN) (h2:n≠nN) (h3:n≠ct) (h4:n≠bg) (h5:n≠bx) (h6:n≠bm) (h7:n≠cE):KN n none
theorem kn(n:Bytes):KN n (aD n):=by
 unfold aD;by_cases h1:n=nFN
 ·subst h1;exact .fn
 by_cases h2:n=nN
 ·subst h2;exact .n
 by_cases h3:n=ct
 ·subst h3;exact .org
 by_cases h4:n=bg
 ·subst h4;exact .title
 by_cases h5:n=bx
 ·subst h5;exact .note
 by_cases h6:n=bm
 ·subst h6;exact .email
 by_cases h7:n=cE
 ·subst h7;exact .tel
 rw[if_neg h1,if_neg h2,if_neg h3,if_neg h4,if_neg h5,if_neg h6,if_neg h7];exact .none n h1 h2 h3 h4 h5 h6 h7
theorem dw{l:Ln}{k:Kd}(h:aD (small l.n)=some k){n f:Nat}(hf:k.fs[n]? =some f):(ba k l.v)[n]? =some (aK l f):=by
 have hk:=kn (small l.n);rw[h]at hk;generalize hn:small l.n=nn at hk;unfold ba dn aK jF;rw[hn];cases hk<;>(match n,hf with|0,hf=>?_|1,hf=>?_|n+2,hf=>?_)<;>first|(simp at hf;done)|(simp at hf;subst hf;simp[atC,nFN,nN,ct,bg,bx,bm,cE,List.range,List.range.loop])
theorem pz{l:Ln}{k:Kd}(h:aD (small l.n)=some k){f:Nat}(hf:f∉k.fs):aK l f=[]:=by
 have hk:=kn (small l.n);rw[h]at hk;generalize hn:small l.n=nn at hk;unfold aK;rw[hn];cases hk<;>simp at hf<;>simp[nFN,nN,ct,bg,bx,bm,cE,hf]
theorem rb{l:Ln}(h:aD (small l.n)=none)(f:Nat):aK l f=[]:=by
 have hk:=kn (small l.n);rw[h]at hk;generalize hn:small l.n=nn at hk;unfold aK;rw[hn];cases hk with
 |none _ h1 h2 h3 h4 h5 h6 h7=>simp[h1,h2,h3,h4,h5,h6,h7]
/-! ### Values put in order -/
def comp:List Bytes→List Bytes
 | []=>[]
 | [x]=>[x]
 |x::y::t=>if x=y then comp (y::t)else x::comp (y::t)
theorem mf:∀(l:List Bytes) (x:Bytes),x∈comp l↔x∈l
 | [],x=>Iff.rfl
 | [a],x=>Iff.rfl
 | a::b::t,x=>by
  rw[comp];split
  ·rename_i h;subst h
   rw[mf (a::t) x];simp
  ·rw[List.mem_cons,mf (b::t) x,List.mem_cons (b:=a)]
theorem pB:∀(l:List Bytes),List.Pairwise (fun a b:Bytes=>a≤b) l→List.Pairwise (fun a b:Bytes=>a<b) (comp l)
 | [],_=>.nil
 | [a],_=>by simp[comp]
 | a::b::t,h=>by
  rw[List.pairwise_cons]at h;have ih:=pB (b::t) h.2;rw[comp];split
  ·exact ih
  ·rename_i hne
   rw[List.pairwise_cons];refine⟨fun x hx=>?_,ih⟩;rw[mf]at hx;have hab:a<b:=by
    rcases BE a b with h1|h1|h1
    ·exact h1
    ·exact(hne h1).elim
    ·exact(BD.1 (h.1 b (by simp)) h1).elim
   rcases List.mem_cons.1 hx with e|e
   ·subst e;exact hab
   ·have:=(List.pairwise_cons.1 h.2).1 x e
    rcases BE b x with h1|h1|h1
    ·exact kW hab h1
    ·subst h1;exact hab
    ·exact(BD.1 this h1).elim
theorem ya{l m:List Bytes}(hl:List.Pairwise (fun a b:Bytes=>a<b) l)(hm:List.Pairwise (fun a b:Bytes=>a<b) m)(h:∀x,x∈l↔x∈m):l=m:=by
 have n1:l.Nodup:=hl.imp fun h=>xY h;have n2:m.Nodup:=hm.imp fun h=>xY h;exact zr ((List.perm_ext_iff_of_nodup n1 n2).2 h) (hl.imp xZ) (hm.imp xZ)
def sG(l:List Bytes):List Bytes:=comp (cp l)
theorem pC(l:List Bytes)(x:Bytes):x∈sG l↔x∈l:=by
 rw[sG,mf,(me l).mem_iff]
theorem pD(l:List Bytes):List.Pairwise (fun a b:Bytes=>a<b) (sG l):=pB _ (sF l)
def iV(s:Bytes):List Bytes→List Bytes
 | []=>[s]
 |o::t=>if o<s then o::iV s t else if o=s then o::t else s::o::t
theorem pE(s:Bytes):∀(l:List Bytes) (x:Bytes),x∈iV s l↔x=s∨x∈l
 | [],x=>by simp[iV]
 | o::t,x=>by
  rw[iV];split
  ·rw[List.mem_cons,pE s t x,List.mem_cons]
   constructor
   ·rintro(h|h|h)
    ·exact .inr (.inl h)
    ·exact .inl h
    ·exact .inr (.inr h)
   ·rintro(h|h|h)
    ·exact .inr (.inl h)
    ·exact .inl h
    ·exact .inr (.inr h)
  ·split
   ·rename_i h;subst h;simp
   ·simp
theorem pF(s:Bytes):∀(l:List Bytes),List.Pairwise (fun a b:Bytes=>a<b) l→List.Pairwise (fun a b:Bytes=>a<b) (iV s l)
 | [],_=>by simp[iV]
 | o::t,h=>by
  have h':=List.pairwise_cons.1 h;rw[iV];split
  ·rename_i h1
   rw[List.pairwise_cons];refine⟨fun x hx=>?_,pF s t h'.2⟩;rcases(pE s t x).1 hx with e|e
   ·subst e;exact h1
   ·exact h'.1 x e
  ·split
   ·exact h
   ·rename_i h1 h2
    rw[List.pairwise_cons];have hso:s<o:=by
     rcases BE o s with k|k|k
     ·exact(h1 k).elim
     ·exact(h2 k).elim
     ·exact k
    refine⟨fun x hx=>?_,h⟩;rcases List.mem_cons.1 hx with e|e
    ·subst e;exact hso
    ·exact kW hso (h'.1 x e)
def nS(l:List Bytes):List Bytes:=l.foldl (fun o s=>iV s o) []
theorem Jq(l:List Bytes):∀o,List.Pairwise (fun a b:Bytes=>a<b) o→List.Pairwise (fun a b:Bytes=>a<b) (l.foldl (fun o s=>iV s o) o)∧∀x,x∈l.foldl (fun o s=>iV s o) o↔x∈o∨x∈l:=by
 induction l with
 |nil=>intro o h;exact⟨h,fun x=>by simp⟩
 | cons s l ih=>
  intro o h;obtain⟨h1,h2⟩:=ih (iV s o) (pF s o h);refine⟨h1,fun x=>?_⟩;rw[List.foldl_cons,h2,pE,List.mem_cons];constructor
  ·rintro((h|h)|h)
   ·exact .inr (.inl h)
   ·exact .inl h
   ·exact .inr (.inr h)
  ·rintro(h|h|h)
   ·exact .inl (.inr h)
   ·exact .inl (.inl h)
   ·exact .inr h
theorem BF(l:List Bytes):sG l=nS l:=by
 obtain⟨h1,h2⟩:=Jq l [] .nil;exact ya (pD l) h1 fun x=>by rw[pC];unfold nS;rw[h2];simp
theorem sH(s:Bytes):∀(l:List Bytes),List.Pairwise (fun a b:Bytes=>a<b) l→∀k,k≤l.length→(∀o∈l.take k,o<s)→(∀o,l[k]? =some o→¬o<s)→iV s l=if l[k]? =some s then l else l.take k++s::l.drop k
 | [],_,k,hk,_,_=>by
  have:k=0:=by simpa using hk
  subst this;simp[iV]
 |o::t,h,0,_,_,h2=>by
  have h3:=h2 o rfl;rw[iV,if_neg h3];simp only[List.getElem?_cons_zero,Option.some.injEq,List.take_zero,List.drop_zero,List.nil_append]
 |o::t,h,k+1,hk,h1,h2=>by
  have h':=List.pairwise_cons.1 h;have h3:o<s:=h1 o (by simp);have ih:=sH s t h'.2 k (by simpa using hk) (fun x hx=>h1 x (by simp[hx])) (fun x hx=>h2 x (by simpa using hx));rw[iV,if_pos h3,ih];simp only[List.getElem?_cons_succ,List.take_succ_cons,List.drop_succ_cons,List.cons_append];split<;>rfl
theorem Jr:tsz Tryz.prog 9=some (esz 0):=by kernel_rfl
theorem Lr:tag Tryz.prog 9=some (decide (0≠0)):=by kernel_rfl
theorem Ha (x:Bool) (es:List AV) (g:FuncId) (fs cs:List AV) (p:AV→Bool) (hs: ∀v∈es,shp 0 v) (hh:AV.hfs es=true∧AV.hfs fs=true∧AV.hfs cs=true)
    (hp: ∀v∈es,aa Tryz.prog g (fs++[v]++cs) (.ret (.bool (p v)))):aa Tryz.prog 100 [.vsl 0 x es,.func (.func g) fs cs] (.ret (.int .i64 (fI p 0 es))):=by
  refine aa.fit fun hfit=> ?_;have hb:es.length≤ay:=hfit (.vsl 0 x es) (by simp);refine aa.of Tryz.func100 rfl (ab enters Tryz.func100 rfl) (by simp[Tryz.ntmps100]) ?_;show W Tryz.prog 19 _ none _ _ _;refine .seq (.region [] (by decide) ?_);simp only[ao,gdA,ae,ad,ai,au,evalOp,St.ev,St.put,bn,ofV,ak];have hln: ∀H,aI Tryz.prog 25 (.vsl 0 x es) H=some (.int .i64 es.length):=by intro H;simp[aI,Tryz.underlying25]
  refine .seq (.seq (.region [] (by decide) ?_));simp only[ao,deN,gdA,ae,ad,ai,au,evalOp,St.ev,Av.get,St.put,ofV,ak,Nat.reduceEqDiff,↓reduceIte,Option.map_some,hln];refine .block ?_
  refine .bh (X:=Nat) (fun i=>[(8,.int .i64 (i:Int)),(7,.int .i64 es.length),(1,.func (.func g) fs cs),(0,.vsl 0 x es)]) (fun i=>[]) (fun i=>i≤es.length∧fI p i (es.drop i)=fI p 0 es) (fun i=>es.length - i) 0 ⟨Nat.zero_le _,rfl⟩
    (by simp[aB,Av.get]) rfl ?_
  rintro i ⟨hi,hall⟩;refine .seq (.region [] (by decide) ?_);simp only[ao,gdA,ae,ad,ai,au,evalOp,St.ev,Av.get,St.put,ak,Nat.reduceEqDiff,↓reduceIte,cr];by_cases h:i<es.length
  · obtain⟨v,hv⟩: ∃v,es[i]? =some v:=⟨es[i],List.getElem?_eq_getElem h⟩
    have hmem:v∈es:=List.mem_of_getElem? hv;have hdrop:es.drop i=v::es.drop (i+1):=by
      rw[List.drop_eq_getElem_cons h];rw[List.getElem?_eq_getElem h]at hv;cases hv;rfl
    rw[hdrop,fI]at hall;have hia: ∀H,ah Tryz.prog 25 (.vsl 0 x es) (.int .i64 (i:Int)) H=some (.vptr v.cells):=by
      intro H;have:=lY (hs v hmem);simp[ah,bL,Tryz.underlying25,Jr,hv,this]
    have hld: ∀H,al Tryz.prog 9 (.vptr v.cells) H=some v:=fun H=>pg Jr Lr (hs v hmem) H;have hhf:AV.hfs (fs++([v]++cs))=true:=by
      have h1:AV.hf v=true:=by have:=hh.1;rw[be]at this;exact List.all_eq_true.1 this v hmem
      have h2:=hh.2.1;have h3:=hh.2.2;rw[be]at h2 h3 ⊢;simp[List.all_append,h1,h2,h3]
    refine .seq (.cond (t:=true) (by simp[St.ev,Av.get];omega) (.skip ?_));simp only[ak];refine .rZ (p v=false) [(8,.int .i64 (i:Int)),(7,.int .i64 es.length),(1,.func (.func g) fs cs),(0,.vsl 0 x es)] [] (x:=Code.block 1 _) ?_ ?_
    · refine .block (.seq (.region [] (by decide) ?_))
      simp only[ao,gdA,ae,ad,ai,au,evalOp,St.ev,Av.get,St.put,ak,Nat.reduceEqDiff,↓reduceIte];refine .seq (.region [.pure (.ret (.bool (p v)))] (by decide) ?_);simp only[ao,gdA,ae,ad,ai,au,evalOp,St.ev,Av.get,St.put,ak,Nat.reduceEqDiff,↓reduceIte,aX,List.map_cons,List.map_nil,Option.map_some,hia,hld,List.append_assoc,hhf];refine⟨by have:=hp v hmem;rw[List.append_assoc]at this;exact this,?_⟩;cases hpv:p v with
      | true=>
        refine .cond (t:=true) rfl (.seq (.region [] (by decide) ?_));simp only[ao,gdA,ae,ad,ai,au,evalOp,St.ev,Av.get,St.put,ak,Nat.reduceEqDiff,↓reduceIte];refine .ret ?_;rw[if_pos hpv]at hall;rw[←hall];exact⟨_,rfl,_,rfl,.refl _⟩
      | false=>
        refine .cond (t:=false) rfl (.skip ?_);refine⟨rfl,?_,rfl,rfl⟩;simp[aB,Av.get]
    · intro hgood
      rw[hgood]at hall;simp only[Bool.false_eq_true,if_false]at hall;refine .region [] (by decide) ?_;have hadd:aW Tryz.prog .add 3 (.int .i64 (i:Int)) (.int .i64 1)=some (.int .i64 ((i+1:Nat):Int)):=by
        rw[du _ _ (by simp only[ay]at hb;omega)];simp
      simp only[ao,gdA,ae,ad,ai,au,evalOp,St.ev,Av.get,St.put,ofV,ak,↓reduceIte,hadd];refine⟨i+1,⟨by omega,hall⟩,by omega,?_,trivial,trivial⟩;simp[aB,Av.get]
  · have hi':i=es.length:=by omega
    subst hi';refine .seq (.cond (t:=false) (by simp[St.ev,Av.get]) (.exit ?_));simp only[ak,↓reduceIte,bl];refine .seq (.region [] (by decide) ?_);have ht:fI p 0 es= -1:=by rw[←hall,List.drop_length];rfl
    rw[ht];simp only[ao,gdA,ae,ad,ai,au,evalOp,St.ev,St.put,ofV,ak];exact .ret ⟨_,rfl,_,rfl,.refl _⟩
theorem cfS (x:Bool) (es:List AV) (g:FuncId) (fs cs:List AV) (p:AV→Bool) (hs: ∀v∈es,shp 0 v) (hh:AV.hfs es=true∧AV.hfs fs=true∧AV.hfs cs=true)
    (hp: ∀v∈es,aa Tryz.prog g (fs++[v]++cs) (.ret (.bool (p v)))):aa Tryz.prog 52 [.vsl 0 x es,.func (.func g) fs cs] (.ret (.bool (es.any p))):=by
  refine aa.of Tryz.func52 rfl (ab enters Tryz.func52 rfl) (by simp[Tryz.ntmps52]) ?_;show W Tryz.prog 9 _ none _ _ _;refine .seq (.region [] (by decide) ?_);simp only[ao,gdA,ae,ad,ai,au,evalOp,St.ev,St.put,bn,ofV,ak];refine .seq (.region [.pure (.ret (.int .i64 (fI p 0 es)))] (by decide) ?_);obtain⟨h1,h2,h3⟩:=hh;simp only[ao,gdA,ae,ad,ai,au,evalOp,St.ev,Av.get,St.put,ofV,ak,Nat.reduceEqDiff,↓reduceIte,aX,AV.hfs,AV.hf,Bool.and_self,List.map_cons,List.map_nil,List.nil_append,List.append_nil,h1,h2,h3,ed,pf];refine⟨Ha x es g fs cs p hs ⟨h1,h2,h3⟩ hp,?_⟩;exact .ret ⟨_,rfl,_,rfl,.refl _⟩
/-! ### Plain -/
def okK(f:Nat)(x:UInt8):Bool:=!(decide (x.toNat<32)&&(decide (x.toNat≠10)||decide (f≠5)))
def eO(f:Nat)(s:Bytes):Bool:=s.all (okK f)&&(decide (1≤s.length)&&decide (s.length≤200))
def kX:List Bytes→Bool
 | []=>true
 | [_]=>true
 |x::y::t=>Op.bytesLess x y&&kX (y::t)
def fi(f:Nat):Nat:=if 6≤f then 8 else 1
def dp(f:Nat)(l:List Bytes):Bool:=decide (l.length≤fi f)&&(l.all (eO f)&&kX l)
def br(x:Nat→List Bytes):Bool:=(List.range 8).all (fun f=>dp f (x f))&&decide ((x 0).length=1)
theorem re{l:List Bytes}{i:Nat}{x y:Bytes}(hx:l[i]? =some x)(hy:l[i+1]? =some y):kX (l.drop i)=(Op.bytesLess x y&&kX (l.drop (i+1))):=by
 have h1:=(List.getElem?_eq_some_iff.1 hx).1;have h2:=(List.getElem?_eq_some_iff.1 hy).1;obtain⟨u,hu,hd⟩:=drop_at h1;obtain⟨v,hv,hd2⟩:=drop_at h2;rw[hx]at hu;cases hu;rw[hy]at hv;cases hv;rw[hd,hd2,kX]
/-! ### A value -/
theorem sI(t:TypeId)(a b:Bytes):aW Tryz.prog .geq t (.str a) (.str b)=some (.bool (!Op.bytesLess a b)):=by simp[aW]
theorem BG(t:TypeId)(a b:Bytes):aW Tryz.prog .lss t (.str a) (.str b)=some (.bool (Op.bytesLess a b)):=by simp[aW]
set_option maxRecDepth 8000 in
theorem Ls(f:Nat)(hf:f<8)(s:Bytes):aa Tryz.prog 99 [.str s,.vptr [.int .i64 (f:Int)]] (.ret (.bool (eO f s))):=by
 refine aa.fit fun hfit=>?_;have hb:s.length≤9223372036854775807:=hfit (.str s) (by simp);have hcv:=cvB s;have hln:=lnB s.length;have hld:∀H,al Tryz.prog 3 (.vptr [.int .i64 (f:Int)]) H=some (.int .i64 (f:Int)):=by intro H;simp[al,tz3,tg3,ldA]
 refine aa.of Tryz.func99 rfl (ab enters Tryz.func99 rfl) (by simp[Tryz.ntmps99]) ?_;show W Tryz.prog 32 0 none _ _ _;refine W.vc (by decide) ?_
 repeat'(first|(simp(disch:=first|omega|(simp only[zL];omega))only[go_sem,seval,hcv,hln]))
 refine W.bh (X:=Nat) (fun i=>[(9,.int .i64 (i:Int)),(8,.int .i64 s.length),(7,.sl 0 0 s.length 0),(0,.str s),(1,.vptr [.int .i64 (f:Int)])]) (fun i=>[.cells (aA s) true]) (fun i=>i≤s.length∧(s.drop i).all (okK f)=s.all (okK f)) (fun i=>s.length - i) 0 ⟨Nat.zero_le _,rfl⟩ ⟨rfl,rfl,rfl,rfl,rfl,trivial⟩ rfl ?_;rintro i ⟨hi,hall⟩;refine .vc (by decide) ?_;by_cases h:i<s.length
 ·obtain⟨x,hx,hdrop⟩:=drop_at h
  have hia:=iaB s.length i h;have hl5:=Ja s i x hx;rw[hdrop,List.all_cons]at hall;by_cases c1:x.toNat<32
  ·by_cases c2:x.toNat=10
   ·by_cases c3:f=5
    ·have hok:okK f x=true:=by simp[okK,c2,c3]
     rw[hok,Bool.true_and]at hall
     repeat'(first|(simp(disch:=first|omega|(simp only[zL];omega))only[go_sem,seval,hia,hl5,hld]))
     exact⟨i+1,⟨by omega,hall⟩,by omega,rfl,rfl,rfl,rfl,rfl,trivial⟩
    ·have hok:okK f x=false:=by simp[okK,c2,c3]
     have e:eO f s=false:=by rw[eO,←hall,hok];rfl
     rw[e]
     repeat'(first|(simp(disch:=first|omega|(simp only[zL];omega))only[go_sem,seval,hia,hl5,hld]))
     exact⟨_,rfl,_,rfl,.refl _⟩
   ·have hok:okK f x=false:=by simp[okK,c1,c2]
    have e:eO f s=false:=by rw[eO,←hall,hok];rfl
    rw[e]
    repeat'(first|(simp(disch:=first|omega|(simp only[zL];omega))only[go_sem,seval,hia,hl5,hld]))
    exact⟨_,rfl,_,rfl,.refl _⟩
  ·have hok:okK f x=true:=by simp[okK,c1]
   rw[hok,Bool.true_and]at hall
   repeat'(first|(simp(disch:=first|omega|(simp only[zL];omega))only[go_sem,seval,hia,hl5,hld]))
   exact⟨i+1,⟨by omega,hall⟩,by omega,rfl,rfl,rfl,rfl,rfl,trivial⟩
 ·have e:i=s.length:=by omega
  subst e;rw[List.drop_length]at hall;have hv:eO f s=(decide (1≤s.length)&&decide (s.length≤200)):=by rw[eO,←hall];rfl
  rw[hv];by_cases c1:1≤s.length
  ·by_cases c2:s.length≤200
   ·rw[decide_eq_true c1,decide_eq_true c2]
    repeat'(first|(simp(disch:=first|omega|(simp only[zL];omega))only[go_sem,seval]))
    exact⟨_,rfl,_,rfl,.refl _⟩
   ·rw[decide_eq_true c1,decide_eq_false c2]
    repeat'(first|(simp(disch:=first|omega|(simp only[zL];omega))only[go_sem,seval]))
    exact⟨_,rfl,_,rfl,.refl _⟩
  ·rw[decide_eq_false c1,Bool.false_and]
   repeat'(first|(simp(disch:=first|omega|(simp only[zL];omega))only[go_sem,seval]))
   exact⟨_,rfl,_,rfl,.refl _⟩
theorem Lt(f:Nat)(hf:f<8)(s:Bytes):aa Tryz.prog 53 [.str s,.vptr [.func (.func 99) [] [.vptr [.int .i64 (f:Int)]]]] (.ret (.bool (!eO f s))):=by
 have hv:=Ls f hf s;have hld:∀H,al Tryz.prog 53 (.vptr [.func (.func 99) [] [.vptr [.int .i64 (f:Int)]]]) H=some (.func (.func 99) [] [.vptr [.int .i64 (f:Int)]]):=by intro H;simp[al,II,Kx,ldA]
 refine aa.of Tryz.func53 rfl (ab enters Tryz.func53 rfl) (by simp[Tryz.ntmps53]) ?_;show W Tryz.prog 8 0 none _ _ _;refine W.vc (by decide) ?_
 repeat'(first|(simp(disch:=first|omega|(simp only[zL];omega))only[go_sem,seval,hld])|((with_reducible first|apply aj.pure|apply an.pure);(with_reducible exact hv);(first|rfl|simp only[go_sem])))
 exact⟨_,rfl,_,rfl,.refl _⟩
theorem wH{g:FuncId}{v:AV}{b:Bool}{k:Nat}(hv:v.hf=true):fz [.cells [v] b] (k+2) (.func (.func g) [] [.ptr 0 0])=some (.func (.func g) [] [.vptr [v]]):=by
 have h1:fz [.cells [v] b] (k+1) (.ptr 0 0)=some (.vptr [v]):=by
  unfold fz;rw[if_neg (by simp[AV.hf])];simp[AV.hfs,hv]
 unfold fz;rw[if_neg (by simp[AV.hf,AV.hfs])];simp[AV.hfs,AV.hf,h1]
theorem Hb(f:Nat):aa Tryz.prog 50 [.int .i64 (f:Int)] (.ret (.func (.func 99) [] [.vptr [.int .i64 (f:Int)]])):=by
 refine aa.of Tryz.func50 rfl (ab enters Tryz.func50 rfl) (by simp[Tryz.ntmps50]) ?_;show W Tryz.prog 4 0 none _ _ _;refine W.vc (by decide) ?_
 repeat'(first|(simp(disch:=first|omega|(simp only[zL];omega))only[go_sem,seval]))
 exact nQ 2 rfl rfl rfl (wH rfl) (.refl _)
theorem Js(f:Nat)(hf:f<8):aa Tryz.prog 51 [.int .i64 (f:Int)] (.ret (.int .i64 (fi f:Int))):=by
 by_cases h:6≤f
 case pos=>
  have e:fi f=8:=if_pos h;rw[e];refine aa.of Tryz.func51 rfl (ab enters Tryz.func51 rfl) (by simp[Tryz.ntmps51]) ?_;show W Tryz.prog 5 0 none _ _ _;refine W.vc (by decide) ?_
  repeat'(first|(simp(disch:=first|omega|(simp only[zL];omega))only[go_sem,seval]))
  exact⟨_,rfl,_,rfl,.refl _⟩
 case neg=>
  have e:fi f=1:=if_neg h;rw[e];refine aa.of Tryz.func51 rfl (ab enters Tryz.func51 rfl) (by simp[Tryz.ntmps51]) ?_;show W Tryz.prog 5 0 none _ _ _;refine W.vc (by decide) ?_
  repeat'(first|(simp(disch:=first|omega|(simp only[zL];omega))only[go_sem,seval]))
  exact⟨_,rfl,_,rfl,.refl _⟩
set_option maxRecDepth 8000 in
theorem Hc(x:Bool)(l:List Bytes):aa Tryz.prog 54 [.vsl 0 x (l.map .str)] (.ret (.bool (kX l))):=by
 refine aa.fit fun hfit=>?_;have hb:(l.map AV.str).length≤9223372036854775807:=hfit (.vsl 0 x (l.map .str)) (by simp);rw[List.length_map]at hb;refine aa.of Tryz.func54 rfl (ab enters Tryz.func54 rfl) (by simp[Tryz.ntmps54]) ?_;show W Tryz.prog 20 0 none _ _ _;refine W.vc (by decide) ?_
 repeat'(first|(simp(disch:=first|omega|(simp only[zL];omega))only[go_sem,seval]))
 refine W.bh (X:=Nat) (fun i=>[(3,.int .i64 ((i+1:Nat):Int)),(0,.vsl 0 x (l.map .str))]) (fun _=>[]) (fun i=>(i<l.length∨i=0)∧kX (l.drop i)=kX l) (fun i=>l.length - i) 0 ⟨.inr rfl,rfl⟩ ⟨rfl,rfl,trivial⟩ rfl ?_;rintro i ⟨hi,hall⟩;refine .vc (by decide) ?_;by_cases h:i+1<l.length
 ·obtain⟨u,hu,_⟩:=drop_at (show i<l.length by omega)
  obtain⟨v,hv,_⟩:=drop_at h;have h1:∀H,ah Tryz.prog 25 (.vsl 0 x (l.map .str)) (.int .i64 (((i+1:Nat):Int) - 1)) H=some (.vptr [.str u]):=by
   intro H;have:(((i+1:Nat):Int) - 1)=((i:Nat):Int):=by omega
   rw[this];exact dW (v:=.str u) (by simp[hu]) rfl H
  have h2:∀H,ah Tryz.prog 25 (.vsl 0 x (l.map .str)) (.int .i64 ((i+1:Nat):Int)) H=some (.vptr [.str v]):=fun H=>dW (v:=.str v) (by simp[hv]) rfl H;rw[re hu hv]at hall;cases hc:Op.bytesLess u v with
  |true=>
   rw[hc,Bool.true_and]at hall
   repeat'(first|(simp(disch:=first|omega|(simp only[zL];omega))only[go_sem,seval]))
   refine W.aO [] [false,false,false,false,false,false,false,false,false,false] [] mixed (by kernel_rfl) (by kernel_rfl) (by kernel_rfl) ?_
   repeat'(first|(simp(disch:=first|omega|(simp only[zL];omega))only[go_sem,seval,h1,h2,sI,hc]))
   exact⟨i+1,⟨.inl h,hall⟩,by omega,⟨rfl,rfl,trivial⟩⟩
  |false=>
   rw[hc,Bool.false_and]at hall;rw[←hall]
   repeat'(first|(simp(disch:=first|omega|(simp only[zL];omega))only[go_sem,seval]))
   refine W.aO [] [false,false,false,false,false,false,false,false,false,false] [] mixed (by kernel_rfl) (by kernel_rfl) (by kernel_rfl) ?_
   repeat'(first|(simp(disch:=first|omega|(simp only[zL];omega))only[go_sem,seval,h1,h2,sI,hc]))
   exact⟨_,rfl,_,rfl,.refl _⟩
 ·have e:kX (l.drop i)=true:=by
   have:(l.drop i).length≤1:=by simp;omega
   match l.drop i,this with
   | [],_=>rfl
   | [_],_=>rfl
  rw[←hall,e]
  repeat'(first|(simp(disch:=first|omega|(simp only[zL];omega))only[go_sem,seval]))
  exact⟨_,rfl,_,rfl,.refl _⟩
/-! ### A contact's fields -/
abbrev Val:=Bool×List Bytes
def av(v:Val):AV:=.vsl 0 v.1 (v.2.map .str)
def ar(c:List Val)(f:Nat):List Bytes:=(c.getD f (true,[])).2
theorem aJ(c:List Val):AV.hfs (c.map av)=true:=by
 rw[be,List.all_eq_true];intro v hv;obtain⟨r,_,rfl⟩:=List.mem_map.1 hv;exact(aF r.2)
theorem uF(c:List Val):(c.map av).all AV.one=true:=by
 rw[List.all_eq_true];intro v hv;obtain⟨r,_,rfl⟩:=List.mem_map.1 hv;rfl
theorem Hd:Aw Tryz.prog 27=some (8,25):=by kernel_rfl
theorem Lu:esA Tryz.prog 25=some 0:=by kernel_rfl
theorem Ju(c:List Val)(hc:c.length=8):fQ Tryz.prog 27 (.ptr 0 0) [.cells (c.map av) false]=some (.sl 0 0 8 0):=by
 have:8≤ay:=by decide
 simp[fQ,Hd,qx,Lu,hc,esz,this]
theorem He(c:List Val)(hc:c.length=8)(H:List OB)(k:Nat)(b:Bool)(h:H[0]? =some (.cells (c.map av) b)):fz H (k+1) (.sl 0 0 8 0)=some (.vsl 0 false (c.map av)):=by
 have ht:((c.map av).drop 0).take 8=c.map av:=by rw[List.drop_zero,List.take_of_length_le (by simp[hc])]
 rw[oO h (by simp[hc]) (by rw[ht];exact aJ c) (by rw[ht];exact uF c),ht]
theorem Lv(c:List Val):aa Tryz.prog 98 [.vsl 0 false (c.map av)] (.ret (.func (.func 140) [] [.vptr [.vsl 0 false (c.map av)]])):=by
 refine aa.of Tryz.func98 rfl (ab enters Tryz.func98 rfl) (by simp[Tryz.ntmps98]) ?_;show W Tryz.prog 4 0 none _ _ _;refine W.vc (by decide) ?_
 repeat'(first|(simp(disch:=first|omega|(simp only[zL];omega))only[go_sem,seval]))
 exact nQ 2 rfl rfl rfl (wH (by simpa[AV.hf]using aJ c)) (.refl _)
theorem Er(c:List Val)(hc:c.length=8):aa Tryz.prog 49 [.agg (c.map av)] (.ret (.func (.func 140) [] [.vptr [.vsl 0 false (c.map av)]])):=by
 have hs:=Ju c hc;have he:bo Tryz.prog 27 (.ptr 0 0) none none none=none:=by simp[bo,Tryz.underlying27]
 have hg:[AV.sl 0 0 8 0].mapM (fz (bH [0] 0 [.cells (c.map av) false]) 20)=some [.vsl 0 false (c.map av)]:=by
  simp[He c hc (bH [0] 0 [.cells (c.map av) false]) 19 false rfl]
 refine aa.of Tryz.func49 rfl (ab enters Tryz.func49 rfl) (by simp[Tryz.ntmps49]) ?_;show W Tryz.prog 5 0 none _ _ _;refine W.vc (by decide) ?_
 repeat'(first|(simp(disch:=first|omega|(simp only[zL];omega))only[go_sem,seval,hs,he])|(guard_target=~ aj _ _ _ _ _ _ _;refine aj.vT [0] _ (Lv c) hg ?_))
 exact wh 2 rfl rfl rfl (by simp[Av.get,AV.hf,AV.hfs,aJ]) (.refl _)
set_option maxRecDepth 8000 in
theorem allI (yid:Nat) (x:Bool) (es:List AV) (hes:es.all AV.one=true) (hL:es.length≤1000000) (p:Nat→Bool) (H:List OB) (J:Nat→List OB→Prop) (B:List OB→Prop) (hJ:J 0 H)
    (hstep: ∀i v K,es[i]? =some v→J i K→ ∃K',(p i=true∧YFn Tryz.prog yid [.int .i64 (i:Int),v] K (.ret (.bool true)) K'∧J (i+1) K')∨(p i=false∧YFn Tryz.prog yid [.int .i64 (i:Int),v] K (.ret (.bool false)) K'∧B K')):
    bt Tryz.prog 140 [.yld yid,.vptr [.vsl 0 x es]] H (fun out K=>out=.ret (.tup [])∧(((List.range es.length).all p=true∧J es.length K)∨((List.range es.length).all p=false∧B K))):=by
  refine bt.ofX Tryz.func140 rfl (ab enters Tryz.func140 rfl) (by simp[Tryz.ntmps140]) ?_;show W Tryz.prog 18 _ none _ _ _;have hld: ∀K,al Tryz.prog 125 (.vptr [.vsl 0 x es]) K=some (.vsl 0 x es):=by intro K;simp[al,IV,IW,ldA]
  have hln: ∀K,aI Tryz.prog 125 (.vsl 0 x es) K=some (.int .i64 es.length):=by intro K;simp[aI,Tryz.underlying125]
  refine .vc (by decide) ?_
  repeat'(first|(simp(disch:=first|omega|(simp only[zL];omega))only[go_sem,seval,hld,hln]))
  refine W.loop (X:=Nat) (fun i a=>aB a.T [(0,.yld yid),(5,.vsl 0 x es),(6,.int .i64 es.length),(7,.int .i64 (i:Int))]∧J i a.H∧a.D=[]∧i≤es.length∧(List.range i).all p=true) (fun i=>es.length - i) 0 ⟨⟨rfl,rfl,rfl,rfl,trivial⟩,hJ,rfl,Nat.zero_le _,rfl⟩ ?_;rintro i ⟨T,K,D⟩ ⟨h1,h2,rfl,h4,h5⟩;simp only at h1 h2 h4 h5;refine W.bQ _ h1 (.vc (by decide) ?_);by_cases h:i<es.length
  · obtain⟨v,hv,hdrop⟩:=drop_at h
    have hone:v.one=true:=List.all_eq_true.1 hes v (List.mem_of_getElem? hv);have hia: ∀K,ah Tryz.prog 125 (.vsl 0 x es) (.int .i64 (i:Int)) K=some (.vptr v.cells):=by
      intro K;simp[ah,bL,Tryz.underlying125,qx,hv,eb hone]
    have hlv: ∀K,al Tryz.prog 25 (.vptr v.cells) K=some v:=by
      intro K;rw[eb hone];simp[al,qx,AX,ldA]
    have hrg:(List.range (i+1)).all p=p i:=by rw[List.range_succ,List.all_append,h5];simp
    obtain⟨K',hs⟩:=hstep i v K hv h2;rcases hs with⟨hp,hy,hJ'⟩|⟨hp,hy,hB⟩
    · repeat'(first|(simp(disch:=first|omega|(simp only[zL];omega))only[go_sem,seval,hia,hlv])|(guard_target=~ aj _ _ _ _ _ _ _;refine aj.sh hy ?_))
      exact⟨i+1,⟨⟨rfl,rfl,rfl,rfl,trivial⟩,hJ',h,by rw[hrg,hp]⟩,by omega⟩
    · have hno:(List.range es.length).all p=false:=by
        rw[List.all_eq_false];exact⟨i,List.mem_range.2 h,by simp[hp]⟩
      repeat'(first|(simp(disch:=first|omega|(simp only[zL];omega))only[go_sem,seval,hia,hlv])|(guard_target=~ aj _ _ _ _ _ _ _;refine aj.sh hy ?_))
      exact⟨_,_,⟨rfl,.inr ⟨hno,hB⟩⟩,_,rfl,rfl,_,rfl,rfl⟩
  · have e:i=es.length:=by omega
    subst e
    repeat'(first|(simp(disch:=first|omega|(simp only[zL];omega))only[go_sem,seval]))
    exact⟨_,_,⟨rfl,.inl ⟨h5,h2⟩⟩,_,rfl,rfl,_,rfl,rfl⟩
/-! ### contact.Check -/
theorem Es{H:List OB}{id:Nat}{g h:FuncId}{fs cs es:List AV}{b x o:Bool}{wd:Nat}(hid:H[id]? =some (.cells [.func (.func g) fs cs] b))(h0:AV.hfs es=true)(h1:AV.hfs fs=true)(h2:AV.hfs cs=true):
    aX H [.vsl wd x es,.func (.func h) [] [.ptr id 0]] (.ret (.bool o))=some [.vsl wd x es,.func (.func h) [] [.vptr [.func (.func g) fs cs]]]:=by
  have hc:AV.hf (.func (.func g) fs cs)=true:=by simp[AV.hf,h1,h2]
  have hp:fz H 19 (.ptr id 0)=some (.vptr [.func (.func g) fs cs]):=by
    unfold fz;rw[if_neg (by simp[AV.hf])];simp[hid,AV.hfs,hc]
  have hf:fz H 20 (.func (.func h) [] [.ptr id 0])=some (.func (.func h) [] [.vptr [.func (.func g) fs cs]]):=by
    unfold fz;rw[if_neg (by simp[AV.hf,AV.hfs])];simp[AV.hfs,AV.hf,hp]
  unfold aX;rw[if_neg (by simp[AV.hfs,AV.hf]),if_pos (show(Out.ret (AV.bool o)).scalar=true from rfl)];simp only[List.mapM_cons,List.mapM_nil,Bl h0,hf];rfl
noncomputable def asK:Code:=match Tryz.f25.body with
 |some (.seq _ (.seq (.seq _ (.block _ (.rangeFunc _ _ a _))) _))=>a
 |_=>.skip
noncomputable def bdK:Code:=match Tryz.f25.body with
 |some (.seq _ (.seq (.seq _ (.block _ (.rangeFunc _ _ _ b))) _))=>b
 |_=>.skip
noncomputable def lkK:cN:=⟨31,#[8,9],asK,bdK,.ready,none⟩
noncomputable def kbK:cN:=⟨31,#[8,9],asK,bdK,.busy,none⟩
noncomputable def kdK:cN:=⟨31,#[8,9],asK,bdK,.done,some .ret⟩
abbrev Jv(c:List Val):AV:=.func (.func 140) [] [.vptr [.vsl 0 false (c.map av)]]
abbrev rf(f:Nat):AV:=.func (.func 99) [] [.vptr [.int .i64 (f:Int)]]
def tK(c:List Val):List (Nat×AV):=[(7,Jv c),(6,.agg (c.map av)),(2,.ptr 1 0),(1,.ptr 0 0),(0,.agg (c.map av))]
def jK(c:List Val)(e:Int)(K:cN)(M:List OB):Prop:=
 M[0]? =some (.cells (c.map av) false)∧M[1]? =some (.cells [.int .i64 e] false)∧M[2]? =some .dfr∧M[3]? =some (.loop (tK c) K)
theorem Et(f:Nat)(l:List Bytes):(l.map AV.str).any (fun v=>match v with| .str s=>!(eO f s)|_=>false)= !(l.all (eO f)):=by
 rw[List.any_map,List.all_eq_not_any_not,Bool.not_not];rfl
set_option maxRecDepth 100000 in
theorem Hf(c:List Val)(f:Nat)(hf:f<8)(v:Val)(K:List OB)(hJ:jK c 0 lkK K):
    ∃ K',(dp f v.2=true∧YFn Tryz.prog 3 [.int .i64 (f:Int),av v] K (.ret (.bool true)) K'∧jK c 0 lkK K')∨
      (dp f v.2=false∧YFn Tryz.prog 3 [.int .i64 (f:Int),av v] K (.ret (.bool false)) K'∧jK c 2 kdK K'):=by
  obtain⟨h0,h1,h2,h3⟩:=hJ;have l3:3<K.length:=(List.getElem?_eq_some_iff.1 h3).1;obtain⟨x,l⟩:=v;simp only[av];obtain⟨M0,hM0⟩: ∃M0,M0=K.set 3 (.loop (tK c) kbK):=⟨_,rfl⟩
  have lM0:M0.length=K.length:=by rw[hM0,List.length_set]
  obtain⟨M,hM⟩: ∃M,M=M0++[.cells [rf f] false]:=⟨_,rfl⟩
  have gM: ∀j,j<3→M[j]? =K[j]? :=by
    intro j hj;rw[hM,List.getElem?_append_left (by omega),hM0,List.getElem?_set,if_neg (by omega)]
  have gM3:M[3]? =some (.loop (tK c) kbK):=by
    rw[hM,List.getElem?_append_left (by omega),hM0,List.getElem?_set_self l3]
  have gMk:M[K.length]? =some (.cells [rf f] false):=by rw[hM,←lM0,List.getElem?_concat_length]
  have lM:3<M.length:=(List.getElem?_eq_some_iff.1 gM3).1;have hln:aI Tryz.prog 25 (.vsl 0 x (l.map .str)) M=some (.int .i64 l.length):=by simp[aI,Tryz.underlying25]
  have hp1:=Js f hf
  have hp2:=cfS x (l.map .str) 53 [] [.vptr [rf f]] (fun v=>match v with| .str s=> !(eO f s)|_=>false)
    (fun v hv=>by obtain⟨b,_,rfl⟩:=List.mem_map.1 hv;rfl) ⟨aF l,rfl,rfl⟩ (fun v hv=>by obtain⟨b,_,rfl⟩:=List.mem_map.1 hv;exact Lt f hf b)
  rw[Et]at hp2;have hp3:=Hc x l;have hpv:=Hb f
  have hle: ∀o,aX M [.vsl 0 x (l.map .str),.func (.func 53) [] [.ptr K.length 0]] (.ret (.bool o))=some [.vsl 0 x (l.map .str),.func (.func 53) [] [.vptr [rf f]]]:=
    fun o=>Es gMk (aF l) rfl rfl
  have hz:bZ Tryz.prog 53=some .nilfunc:=by kernel_rfl
  have hst0:aE Tryz.prog 53 (.ptr K.length 0) (rf f) (M0++[.cells [.nilfunc] false])=some M:=by
    rw[hM,IJ];simp only[stC];rw[←lM0,List.getElem?_concat_length];simp[AV.cells,AV.isC,cm,rf]
  have hfb:dp f l=(decide (l.length≤fi f)&&(l.all (eO f)&&kX l)):=rfl;generalize l.all (eO f)=b2 at*;generalize kX l=b3 at*;have l1:1<M.length:=by omega
  have gM1:M[1]? =some (.cells [.int .i64 0] false):=by rw[gM 1 (by omega)];exact h1
  have hst2:aE Tryz.prog 31 (.ptr 1 0) (.int .i64 2) M=some (M.set 1 (.cells [.int .i64 2] false)):=by
    rw[Gc];simp[stC,gM1,AV.cells,AV.isC,cm]
  have good:jK c 0 lkK (M.set 3 (.loop (tK c) lkK)):=by
    have g: ∀j,j<3→(M.set 3 (.loop (tK c) lkK))[j]? =K[j]? :=by
      intro j hj;rw[List.getElem?_set,if_neg (by omega)];exact gM j hj
    exact⟨by rw[g 0 (by omega)];exact h0,by rw[g 1 (by omega)];exact h1,by rw[g 2 (by omega)];exact h2,by rw[List.getElem?_set_self lM]⟩
  have bad:jK c 2 kdK ((M.set 1 (.cells [.int .i64 2] false)).set 3 (.loop (tK c) kdK)):=by
    have g: ∀j,j<3→j≠1→((M.set 1 (.cells [.int .i64 2] false)).set 3 (.loop (tK c) kdK))[j]? =K[j]? :=by
      intro j hj hj1;rw[List.getElem?_set,if_neg (by omega),List.getElem?_set,if_neg (by omega)];exact gM j hj
    refine⟨by rw[g 0 (by omega) (by omega)];exact h0,?_,by rw[g 2 (by omega) (by omega)];exact h2,by rw[List.getElem?_set_self (by rw[List.length_set];exact lM)]⟩;rw[List.getElem?_set,if_neg (by omega),List.getElem?_set_self l1]
  have gB:(M.set 1 (.cells [.int .i64 2] false))[3]? =some (.loop (tK c) kbK):=by rw[List.getElem?_set,if_neg (by omega)];exact gM3
  by_cases c1:l.length>fi f
  · refine⟨_,.inr ⟨by rw[hfb,decide_eq_false (by omega)];rfl,?_,bad⟩⟩
    refine YFn.of h3 (by simp[lkK]) fun l'=> ?_;show W Tryz.prog 31 _ _ (.seq (.region 2 _ _) (.region 3 _ _)) _ ⟨(9,.vsl 0 x (l.map .str))::(8,.int .i64 (f:Int))::tK c,K,[]⟩;refine .vc (by decide) ?_
    repeat'(first|(simp(disch:=first|omega|(simp only[zL];omega))only[go_sem,seval,tK]))
    refine⟨tK c,lkK,h3,rfl,?_⟩;rw[show({lkK with st:=.busy}:cN)=kbK from rfl];show W Tryz.prog 31 _ _ (.block 1 (.seq (.region 4 _ _) _)) _ ⟨_,K.set 3 _,_⟩;rw[←hM0];refine .vc (by decide) ?_
    repeat'(first|(simp(disch:=first|omega|(simp only[zL];omega))only[go_sem,seval,tK,hz,hst0,hln,hst2,lM0])|((with_reducible first|apply aj.pure|apply an.pure);(with_reducible assumption);(first|rfl|simp only[go_sem])))
    exact⟨tK c,kbK,gB,rfl,rfl⟩
  rw[decide_eq_true (show l.length≤fi f by omega),Bool.true_and]at hfb;cases b2 with
  | false=>
    refine⟨_,.inr ⟨by rw[hfb];rfl,?_,bad⟩⟩;refine YFn.of h3 (by simp[lkK]) fun l'=> ?_;show W Tryz.prog 31 _ _ (.seq (.region 2 _ _) (.region 3 _ _)) _ ⟨(9,.vsl 0 x (l.map .str))::(8,.int .i64 (f:Int))::tK c,K,[]⟩;refine .vc (by decide) ?_
    repeat'(first|(simp(disch:=first|omega|(simp only[zL];omega))only[go_sem,seval,tK]))
    refine⟨tK c,lkK,h3,rfl,?_⟩;rw[show({lkK with st:=.busy}:cN)=kbK from rfl];show W Tryz.prog 31 _ _ (.block 1 (.seq (.region 4 _ _) _)) _ ⟨_,K.set 3 _,_⟩;rw[←hM0];refine .vc (by decide) ?_
    repeat'(first|(simp(disch:=first|omega|(simp only[zL];omega))only[go_sem,seval,tK,hz,hst0,hln,hst2,lM0])|(guard_target=~ aj _ _ _ _ _ _ _;refine aj.aX _ hp2 (hle _) ?_)|((with_reducible first|apply aj.pure|apply an.pure);(with_reducible assumption);(first|rfl|simp only[go_sem])))
    exact⟨tK c,kbK,gB,rfl,rfl⟩
  | true=>
    cases b3 with
    | false=>
      refine⟨_,.inr ⟨by rw[hfb];rfl,?_,bad⟩⟩;refine YFn.of h3 (by simp[lkK]) fun l'=> ?_;show W Tryz.prog 31 _ _ (.seq (.region 2 _ _) (.region 3 _ _)) _ ⟨(9,.vsl 0 x (l.map .str))::(8,.int .i64 (f:Int))::tK c,K,[]⟩;refine .vc (by decide) ?_
      repeat'(first|(simp(disch:=first|omega|(simp only[zL];omega))only[go_sem,seval,tK]))
      refine⟨tK c,lkK,h3,rfl,?_⟩;rw[show({lkK with st:=.busy}:cN)=kbK from rfl];show W Tryz.prog 31 _ _ (.block 1 (.seq (.region 4 _ _) _)) _ ⟨_,K.set 3 _,_⟩;rw[←hM0];refine .vc (by decide) ?_
      repeat'(first|(simp(disch:=first|omega|(simp only[zL];omega))only[go_sem,seval,tK,hz,hst0,hln,hst2,lM0])|(guard_target=~ aj _ _ _ _ _ _ _;refine aj.aX _ hp2 (hle _) ?_)|((with_reducible first|apply aj.pure|apply an.pure);(with_reducible assumption);(first|rfl|simp only[go_sem,aF])))
      exact⟨tK c,kbK,gB,rfl,rfl⟩
    | true=>
      refine⟨_,.inl ⟨by rw[hfb];rfl,?_,good⟩⟩;refine YFn.of h3 (by simp[lkK]) fun l'=> ?_;show W Tryz.prog 31 _ _ (.seq (.region 2 _ _) (.region 3 _ _)) _ ⟨(9,.vsl 0 x (l.map .str))::(8,.int .i64 (f:Int))::tK c,K,[]⟩;refine .vc (by decide) ?_
      repeat'(first|(simp(disch:=first|omega|(simp only[zL];omega))only[go_sem,seval,tK]))
      refine⟨tK c,lkK,h3,rfl,?_⟩;rw[show({lkK with st:=.busy}:cN)=kbK from rfl];show W Tryz.prog 31 _ _ (.block 1 (.seq (.region 4 _ _) _)) _ ⟨_,K.set 3 _,_⟩;rw[←hM0];refine .vc (by decide) ?_
      repeat'(first|(simp(disch:=first|omega|(simp only[zL];omega))only[go_sem,seval,tK,hz,hst0,hln,lM0])|(guard_target=~ aj _ _ _ _ _ _ _;refine aj.aX _ hp2 (hle _) ?_)|((with_reducible first|apply aj.pure|apply an.pure);(with_reducible assumption);(first|rfl|simp only[go_sem,aF])))
      exact⟨tK c,kbK,gM3,rfl,rfl⟩
/-! ### What is done where a parse gives up -/
theorem sJ{α:Type}{l:List α}{p:α→Bool}{i:Nat}{x:α}(h:l[i]? =some x)(hp:p x=false):l.all p=false:=by
 cases hc:l.all p with
 |false=>rfl
 |true=>have:=List.all_eq_true.1 hc x (List.mem_of_getElem? h);rw[hp]at this;cases this
theorem all_succ{α:Type}{l:List α}{p:α→Bool}{i:Nat}{x:α}(h:l[i]? =some x)(ha:(l.take i).all p=true)(hp:p x=true):(l.take (i+1)).all p=true:=by
 rw[List.take_add_one,h,List.all_append,ha];simp[hp]
/-! ### Names -/
set_option maxRecDepth 8000 in
theorem wI(s:Bytes)(hs:s.length≤1000000):aa Tryz.prog 147 [.str s] (.ret (.str (dJ s))):=by
 refine aa.of Tryz.func147 rfl (ab enters Tryz.func147 rfl) (by simp[Tryz.ntmps147]) ?_;show W Tryz.prog 29 0 none _ _ _;refine W.vc (by decide) ?_
 repeat'(first|(simp(disch:=first|omega|(simp only[zL];omega))only[go_sem,seval]))
 refine W.bh (X:=Nat) (fun i=>[(4,.int .i64 (i:Int)),(3,.str (dJ (s.take i))),(0,.str s)]) (fun _=>[]) (fun i=>i≤s.length) (fun i=>s.length - i) 0 (Nat.zero_le _) (by simp[aB,Av.get,dJ]) rfl ?_;intro i hi;refine .vc (by decide) ?_;by_cases h:i<s.length
 ·obtain⟨x,hx,_⟩:=drop_at h
  have hbs:=bsB (up x);have hcv:=cvS (up x);have hgl:(dJ (s.take i)).length≤1000000:=by rw[ck];simp;omega
  have hg:dJ (s.take (i+1))=dJ (s.take i)++[up x]:=by simp[dJ,List.take_add_one,hx]
  have hlt:=x.toNat_lt;by_cases h1:97≤x.toNat
  ·by_cases h2:x.toNat≤122
   ·have hu:((x.toNat:Int) - 32)=((up x).toNat:Int):=by
     have:up x=x - 32:=by unfold up;rw[if_pos ⟨UInt8.le_iff_toNat_le.2 h1,UInt8.le_iff_toNat_le.2 h2⟩]
     rw[this,UInt8.toNat_sub_of_le _ _ (UInt8.le_iff_toNat_le.2 (by simp;omega))];simp;omega
    have hsub:∀t,aW Tryz.prog .sub t (.int .u8 (x.toNat:Int)) (.int .u8 32)=some (.int .u8 (up x).toNat):=by
     intro t;rw[←hu];simp only[aW,IntKind.wrap,IntKind.bits,IntKind.signed];simp;omega
    repeat'(first|(simp(disch:=first|omega|(simp only[zL];omega))only[go_sem,seval,xi9 hx,hsub,hbs,hcv]))
    exact⟨i+1,by omega,by omega,⟨rfl,by rw[hg];rfl,rfl,trivial⟩⟩
   ·have hu:up x=x:=by unfold up;rw[if_neg];rintro⟨_,h⟩;exact h2 (UInt8.le_iff_toNat_le.1 h)
    rw[hu]at hbs hcv hg
    repeat'(first|(simp(disch:=first|omega|(simp only[zL];omega))only[go_sem,seval,xi9 hx,hbs,hcv]))
    exact⟨i+1,by omega,by omega,⟨rfl,by rw[hg];rfl,rfl,trivial⟩⟩
  ·have hu:up x=x:=by unfold up;rw[if_neg];rintro⟨h,_⟩;exact h1 (UInt8.le_iff_toNat_le.1 h)
   rw[hu]at hbs hcv hg
   repeat'(first|(simp(disch:=first|omega|(simp only[zL];omega))only[go_sem,seval,xi9 hx,hbs,hcv]))
   exact⟨i+1,by omega,by omega,⟨rfl,by rw[hg];rfl,rfl,trivial⟩⟩
 ·have e:i=s.length:=by omega
  subst e;rw[List.take_length]
  repeat'(first|(simp(disch:=first|omega|(simp only[zL];omega))only[go_sem,seval]))
  exact⟨_,rfl,_,rfl,.refl _⟩
/-! ### Folded -/
theorem Hg(x:UInt8):aw Tryz.prog 108 1 [(0,.int .u8 x.toNat)]=some (.vsl 0 true [bp x]):=bsB x
theorem BH:ch 1 (.str [13,10,32])=fun _=>some (3,aA [13,10,32]):=by funext H;rfl
def byM(k:Nat)(z:Bool)(L:Bytes):List OB:=mem [] bp k 0 z L
def byV(k:Nat)(z:Bool)(L:Bytes):AV:=bJ 0 0 0 bp k z L
theorem dY(L:Bytes):aU bp L=aA L:=by
 induction L with
 |nil=>rfl
 |cons x t ih=>simp only[aU,List.map_cons,List.flatMap_cons]at ih ⊢;rw[ih];rfl
theorem mg(k:Nat)(z:Bool)(L:Bytes)(x:UInt8)(y:Bool)(hb:L.length≤1000000)(h:z=false→L=[]):
    ∃k',aG Tryz.prog 108 108 (byV k z L) (.vsl 0 y [bp x]) (byM k z L)=some (byV k' true (L++[x]),byM k' true (L++[x])):=by
  have hz8:(1:Nat)=esz 0:=rfl;cases z with
  | false=>
    rw[h rfl];refine⟨k,?_⟩;have:(mem [] bp k 0 false ([]:Bytes))=List.replicate k .dead:=by simp[mem]
    simp only[byV,byM,bJ,Bool.false_eq_true,if_false,List.map_nil,this,aG,Tryz.underlying108,apX,ub,ch,bW];simp[mem,dY,aA,esz,AV.cells,bp]
  | true=>
    refine⟨k+1,?_⟩;have hl:(mem [] bp k 0 true L)=List.replicate k .dead++[.cells (aA L) true]:=by simp[mem,dY]
    have hl2:(mem [] bp (k+1) 0 true (L++[x]))=List.replicate (k+1) .dead++[.cells (aA (L++[x])) true]:=by simp[mem,dY]
    have hg:(List.replicate k OB.dead++[OB.cells (aA L) true])[k]? =some (.cells (aA L) true):=by
      rw[List.getElem?_append_right (by simp)];simp
    have hs:(List.replicate k OB.dead++[OB.cells (aA L) true]).set k .dead=List.replicate (k+1) .dead:=by
      rw[List.set_append_right _ _ (by simp)];simp[List.replicate_succ']
    simp only[byV,byM,bJ,if_true,hl,hl2,Nat.zero_add,List.length_nil,aG,Tryz.underlying108,apX,ub,ch,bW,hg];have hbl:(aA L).length=L.length:=cG L;have hn:([bp x].flatMap AV.cells)=[bp x]:=rfl;simp only[hn,List.length_cons,List.length_nil,esz,if_true,Nat.mul_one,Nat.zero_add,hbl,List.drop_zero];rw[if_pos ⟨trivial,rfl,by omega,Nat.le_refl _⟩,if_neg (by omega)];simp[hs,aA,List.replicate_succ']
theorem Eu(k:Nat)(z:Bool)(L:Bytes)(hb:L.length≤1000000)(h:z=false→L=[]):
    ∃k',aG Tryz.prog 108 9 (byV k z L) (.str [13,10,32]) (byM k z L)=some (byV k' true (L++[13,10,32]),byM k' true (L++[13,10,32])):=by
  have hap:apX Tryz.prog 9=true:=by simp[apX,Tryz.underlying9]
  have hcn:=congrFun BH;cases z with
  | false=>
    rw[h rfl];refine⟨k,?_⟩;have:(mem [] bp k 0 false ([]:Bytes))=List.replicate k .dead:=by simp[mem]
    simp only[byV,byM,bJ,Bool.false_eq_true,if_false,List.map_nil,this,aG,Tryz.underlying108,hap,ub,hcn,bW];simp[mem,dY,aA,esz,AV.cells,bp]
  | true=>
    refine⟨k+1,?_⟩;have hl:(mem [] bp k 0 true L)=List.replicate k .dead++[.cells (aA L) true]:=by simp[mem,dY]
    have hl2:(mem [] bp (k+1) 0 true (L++[13,10,32]))=List.replicate (k+1) .dead++[.cells (aA (L++[13,10,32])) true]:=by simp[mem,dY]
    have hg:(List.replicate k OB.dead++[OB.cells (aA L) true])[k]? =some (.cells (aA L) true):=by
      rw[List.getElem?_append_right (by simp)];simp
    have hs:(List.replicate k OB.dead++[OB.cells (aA L) true]).set k .dead=List.replicate (k+1) .dead:=by
      rw[List.set_append_right _ _ (by simp)];simp[List.replicate_succ']
    simp only[byV,byM,bJ,if_true,hl,hl2,Nat.zero_add,List.length_nil,aG,Tryz.underlying108,hap,ub,hcn,hg];have hbl:(aA L).length=L.length:=cG L;simp only[esz,if_true,Nat.mul_one,Nat.zero_add,hbl,List.drop_zero];rw[if_pos ⟨trivial,rfl,by omega,Nat.le_refl _⟩,if_neg (by omega)];simp[hs,aA,List.replicate_succ']
theorem BI(k:Nat)(z:Bool)(L:Bytes)(h:z=false→L=[]):cc Tryz.prog 108 9 (byV k z L) (byM k z L)=some (.str L,byM k z L):=by
 cases z with
 |false=>rw[h rfl];simp[byV,bJ,cc,Tryz.underlying9,Tryz.underlying108,Tryz.underlying5];rfl
 | true=>
  have hl:(mem [] bp k 0 true L)=List.replicate k .dead++[.cells (aA L) true]:=by simp[mem,dY]
  have hg:(List.replicate k OB.dead++[OB.cells (aA L) true])[k]? =some (.cells (aA L) true):=by
   rw[List.getElem?_append_right (by simp)];simp
  have hbl:(aA L).length=L.length:=cG L;simp only[byV,byM,bJ,if_true,hl,Nat.zero_add,List.length_nil,cc,Tryz.underlying9,Tryz.underlying108,Tryz.underlying5,hg,Nat.zero_add,hbl];simp[List.take_of_length_le,eU,hbl]
theorem eP(c:List Val)(f:Nat)(v:Val)(h:c[f]? =some v):ar c f=v.2:=by simp[ar,List.getD,h]
theorem FG{P:Program}{rs:List ResultVar}{a:St}{v v':AV}(t ty d:Nat)(hr:rs=[.cell t ty])(hD:a.D=[.mark d])(hd:a.H[d]? =some .dfr)(hl:al P ty (Av.get a.T t) (a.H.set d .dead)=some v)(hv:v.hf=true)(he:Le v v'):fp P rs (.ret v') .ret a:=by
 obtain⟨T,H,D⟩:=a;simp only at hD hd hl;subst hD;subst hr;refine⟨⟨T,H.set d .dead,[]⟩,?_,v,?_,he⟩
 ·simp[gO,lC,hd]
 ·show(al P ty (Av.get T t) (H.set d .dead)).bind _=_
  rw[hl];exact cJ hv
theorem eG(id i:Nat)(hi:i<8)(H:List OB):ah Tryz.prog 27 (.ptr id 0) (.int .i64 (i:Int)) H=some (.ptr id i):=by
 simp[ah,bL,Tryz.underlying27,qx,hi]
theorem ldE(H:List OB)(id:Nat)(v:AV)(b:Bool)(h:H[id]? =some (.cells [v] b)):al Tryz.prog 31 (.ptr id 0) H=some v:=by
 simp[ID,ldC,h]
set_option maxRecDepth 100000 in
theorem Hh(c:List Val)(hc:c.length=8):aa Tryz.prog 25 [.agg (c.map av)] (.ret (.int .i64 (if br (ar c)then 0 else 2))):=by
 have hfv:=Er c hc;have hld0:∀H,al Tryz.prog 27 (.ptr 0 0) (.cells (c.map av) false::H)=some (.agg (c.map av)):=by
  intro H;simp[al,Dw,Gb,ldA,hc];exact List.take_of_length_le (by simp[hc])
 refine aa.of Tryz.func25 rfl (ab enters Tryz.func25 rfl) (by simp[Tryz.ntmps25]) ?_;show W Tryz.prog 31 0 none _ _ _;refine W.vc (by decide) ?_
 repeat'(first|(simp(disch:=first|omega|(simp only[zL];omega))only[go_sem,seval,hld0])|((with_reducible first|apply aj.pure|apply an.pure);(with_reducible exact hfv);(first|rfl|simp only[go_sem,aJ])))
 have hstep:=allI 3 false (c.map av) (uF c) (by simp[hc]) (fun f=>dp f (ar c f))
  ([.cells (c.map av) false,.cells [.int .i64 0] false]++[.dfr,.loop (tK c) lkK]) (fun _=>jK c 0 lkK) (jK c 2 kdK) ⟨rfl,rfl,rfl,rfl⟩ (by
   intro i v K hv hK;rw[List.getElem?_map,Option.map_eq_some_iff]at hv;obtain⟨u,hu,rfl⟩:=hv;have hi:i<8:=by rw[←hc];exact(List.getElem?_eq_some_iff.1 hu).1
   simp only[eP c i u hu]
   exact Hf c i hi u K hK)
 rw[List.length_map,hc]at hstep;refine W.iQ (gf:=140) (fs:=[]) (cs:=[.vptr [.vsl 0 false (c.map av)]]) rfl (ab enters Tryz.func140 rfl) hstep ?_;rintro out K ⟨rfl,h|h⟩
 ·obtain⟨hg,h0,h1,h2,h3⟩:=h
  refine⟨_,_,_,rfl,h3,by simp[lkK],?_⟩;show cC _ _ _ _ _ none;have l3:3<K.length:=(List.getElem?_eq_some_iff.1 h3).1;obtain⟨M,hM⟩:∃M,M=K.set 3 OB.dead:=⟨_,rfl⟩
  have gM:∀j,j<3→M[j]? =K[j]?:=by intro j hj;rw[hM,List.getElem?_set,if_neg (by omega)]
  have m0:M[0]? =some (.cells (c.map av) false):=by rw[gM 0 (by omega)];exact h0
  have m1:M[1]? =some (.cells [.int .i64 0] false):=by rw[gM 1 (by omega)];exact h1
  have m2:M[2]? =some .dfr:=by rw[gM 2 (by omega)];exact h2
  have l1:1<M.length:=(List.getElem?_eq_some_iff.1 m1).1;have hMe:K.set ([OB.cells (c.map av) false,.cells [.int .i64 0] false].length+1) .dead=M:=hM.symm;rw[hMe];obtain⟨u,hu⟩:∃u,c[0]? =some u:=⟨c[0],List.getElem?_eq_getElem (by omega)⟩
  have hf0:ar c 0=u.2:=eP c 0 u hu;have hia:ah Tryz.prog 27 (.ptr 0 0) (.int .i64 0) M=some (.ptr 0 0):=eG 0 0 (by decide) M;have hld:al Tryz.prog 25 (.ptr 0 0) M=some (av u):=by
   have hcu:(c.map av)[0]? =some (av u):=by simp[hu]
   rw[vX];simp only[ldC,m0,hcu]
  have hln:aI Tryz.prog 25 (av u) M=some (.int .i64 u.2.length):=by simp[aI,av,Tryz.underlying25]
  have hst:∀v,aE Tryz.prog 31 (.ptr 1 0) (.int .i64 v) M=some (M.set 1 (.cells [.int .i64 v] false)):=by
   intro v;rw[Gc];simp[stC,m1,AV.cells,AV.isC,cm]
  have hde:deN (av u)=av u:=rfl;have fin:∀T v,Av.get T 2=.ptr 1 0→fp Tryz.prog Tryz.f25.results.toList (.ret (.int .i64 v)) .ret ⟨T,M.set 1 (.cells [.int .i64 v] false),[.mark 2]⟩:=by
   intro T v hT;refine FG 2 31 2 rfl rfl ?_ ?_ rfl (.refl _)
   ·show(M.set 1 _)[2]? =_
    rw[List.getElem?_set,if_neg (by omega)];exact m2
   ·show al _ _ (Av.get T 2) _=_
    rw[hT];refine ldE _ 1 _ false ?_;rw[List.getElem?_set,if_neg (by omega),List.getElem?_set_self l1]
  have hck:br (ar c)=decide (u.2.length=1):=by unfold br;rw[hg,hf0,Bool.true_and]
  rw[hck];by_cases c1:u.2.length=1
  ·rw[decide_eq_true c1,if_pos rfl]
   repeat'(first|(simp(disch:=first|omega|(simp only[zL];omega))only[go_sem,seval,cC,hia,hld,hln,hst,hde,tK]))
   exact fin _ _ rfl
  ·rw[decide_eq_false c1,if_neg (by simp)]
   repeat'(first|(simp(disch:=first|omega|(simp only[zL];omega))only[go_sem,seval,cC,hia,hld,hln,hst,hde,tK]))
   exact fin _ _ rfl
 ·obtain⟨hg,h0,h1,h2,h3⟩:=h
  refine⟨_,_,_,rfl,h3,by simp[kdK],?_⟩;show cC _ _ _ _ _ (some .ret);have hck:br (ar c)=false:=by unfold br;rw[hg];rfl
  rw[hck,if_neg (by simp)];have l1:1<K.length:=(List.getElem?_eq_some_iff.1 h1).1;simp only[cC];refine .ret ?_;simp only[bl,ak];refine FG (v:=.int .i64 2) 2 31 2 rfl rfl ?_ ?_ rfl (.refl _)
  ·show(K.set 3 .dead)[2]? =_
   rw[List.getElem?_set,if_neg (by omega)];exact h2
  ·show al _ _ (.ptr 1 0) ((K.set 3 .dead).set 2 .dead)=_
   refine ldE _ 1 _ false ?_;rw[List.getElem?_set,if_neg (by omega),List.getElem?_set,if_neg (by omega)];exact h1
theorem yb{α:Type}{l m:List α}{i:Nat}{u v:α}(h:l.take i=m.take i)(hu:l[i]? =some u)(hv:m[i]? =some v)(e:u=v):l.take (i+1)=m.take (i+1):=by
 rw[List.take_add_one,List.take_add_one,hu,hv,h,e]
theorem FH{α:Type}{l m:List α}{i:Nat}{u v:α}(hu:l[i]? =some u)(hv:m[i]? =some v)(e:u≠v):l≠m:=by
 rintro rfl;rw[hu]at hv;cases hv;exact e rfl
theorem BJ{P:Program}{f:FuncId}{x:Bool}{l:List Bytes}{r:List AV}{out:Out}(h:l.length≤9223372036854775807→aa P f (.vsl 0 x (l.map .str)::r) out):aa P f (.vsl 0 x (l.map .str)::r) out:=
 aa.fit fun hfit=>h (by have:(l.map AV.str).length≤9223372036854775807:=hfit (.vsl 0 x (l.map .str)) (by simp);simpa using this)
set_option maxRecDepth 8000 in
theorem Hj(x y:Bool)(l m:List Bytes):aa Tryz.prog 77 [.vsl 0 x (l.map .str),.vsl 0 y (m.map .str)] (.ret (.bool (l==m))):=by
 refine BJ fun hb=>?_;by_cases hl:l.length=m.length
 case neg=>
  have e:(l==m)=false:=by simp;rintro rfl;exact hl rfl
  rw[e];refine aa.of Tryz.func77 rfl (ab enters Tryz.func77 rfl) (by simp[Tryz.ntmps77]) ?_;show W Tryz.prog 26 0 none _ _ _;refine W.vc (by decide) ?_
  repeat'(first|(simp(disch:=first|omega|(simp only[zL];omega))only[go_sem,Nat.reduceEqDiff,↓reduceIte,Nat.reduceAdd,Nat.reduceMul,Nat.reduceSub,Nat.reduceLeDiff,Nat.reduceLT,Int.reduceToNat,Int.reduceLE]))
  exact⟨_,rfl,_,rfl,.refl _⟩
 refine aa.of Tryz.func77 rfl (ab enters Tryz.func77 rfl) (by simp[Tryz.ntmps77]) ?_;show W Tryz.prog 26 0 none _ _ _;refine W.vc (by decide) ?_
 repeat'(first|(simp(disch:=first|omega|(simp only[zL];omega))only[go_sem,Nat.reduceEqDiff,↓reduceIte,Nat.reduceAdd,Nat.reduceMul,Nat.reduceSub,Nat.reduceLeDiff,Nat.reduceLT,Int.reduceToNat,Int.reduceLE]))
 refine W.bh (X:=Nat) (fun i=>[(5,.int .i64 (i:Int)),(0,.vsl 0 x (l.map .str)),(1,.vsl 0 y (m.map .str))]) (fun _=>[]) (fun i=>i≤l.length∧l.take i=m.take i) (fun i=>l.length - i) 0 ⟨Nat.zero_le _,rfl⟩ ⟨rfl,rfl,rfl,trivial⟩ rfl ?_;rintro i ⟨hi,ht⟩;refine .vc (by decide) ?_;by_cases h:i<l.length
 ·obtain⟨u,hu,_⟩:=drop_at h
  obtain⟨v,hv,_⟩:=drop_at (show i<m.length by omega);have h1:∀H,ah Tryz.prog 25 (.vsl 0 x (l.map .str)) (.int .i64 (i:Int)) H=some (.vptr [.str u]):=fun H=>dW (v:=.str u) (by simp[hu]) rfl H;have h2:∀H,ah Tryz.prog 25 (.vsl 0 y (m.map .str)) (.int .i64 (i:Int)) H=some (.vptr [.str v]):=fun H=>dW (v:=.str v) (by simp[hv]) rfl H;cases hc:(u==v)with
  |true=>
   have hn:=yb ht hu hv (by simpa using hc)
   repeat'(first|(simp(disch:=first|omega|(simp only[zL];omega))only[go_sem,Nat.reduceEqDiff,↓reduceIte,Nat.reduceAdd,Nat.reduceMul,Nat.reduceSub,Nat.reduceLeDiff,Nat.reduceLT,Int.reduceToNat,Int.reduceLE]))
   refine W.aO [] [false,false,false,false,false,false,false,false,false] [] mixed (by kernel_rfl) (by kernel_rfl) (by kernel_rfl) ?_
   repeat'(first|(simp(disch:=first|omega|(simp only[zL];omega))only[go_sem,Nat.reduceEqDiff,↓reduceIte,Nat.reduceAdd,Nat.reduceMul,Nat.reduceSub,Nat.reduceLeDiff,Nat.reduceLT,Int.reduceToNat,Int.reduceLE,h1,h2,hc]))
   exact⟨i+1,⟨by omega,hn⟩,by omega,rfl,rfl,rfl,trivial⟩
  |false=>
   have e:(l==m)=false:=by simpa using FH hu hv (by simpa using hc)
   rw[e]
   repeat'(first|(simp(disch:=first|omega|(simp only[zL];omega))only[go_sem,Nat.reduceEqDiff,↓reduceIte,Nat.reduceAdd,Nat.reduceMul,Nat.reduceSub,Nat.reduceLeDiff,Nat.reduceLT,Int.reduceToNat,Int.reduceLE]))
   refine W.aO [] [false,false,false,false,false,false,false,false,false] [] mixed (by kernel_rfl) (by kernel_rfl) (by kernel_rfl) ?_
   repeat'(first|(simp(disch:=first|omega|(simp only[zL];omega))only[go_sem,Nat.reduceEqDiff,↓reduceIte,Nat.reduceAdd,Nat.reduceMul,Nat.reduceSub,Nat.reduceLeDiff,Nat.reduceLT,Int.reduceToNat,Int.reduceLE,h1,h2,hc]))
   exact⟨_,rfl,_,rfl,.refl _⟩
 ·have e:i=l.length:=by omega
  subst e;have e:(l==m)=true:=by
   rw[List.take_length,hl,List.take_length]at ht;simp[ht]
  rw[e]
  repeat'(first|(simp(disch:=first|omega|(simp only[zL];omega))only[go_sem,Nat.reduceEqDiff,↓reduceIte,Nat.reduceAdd,Nat.reduceMul,Nat.reduceSub,Nat.reduceLeDiff,Nat.reduceLT,Int.reduceToNat,Int.reduceLE]))
  exact⟨_,rfl,_,rfl,.refl _⟩
set_option maxRecDepth 8000 in
theorem equalS(x y:Bool)(l m:List Bytes):aa Tryz.prog 102 [.vsl 0 x (l.map .str),.vsl 0 y (m.map .str)] (.ret (.bool (l==m))):=by
 refine BJ fun hb=>?_;by_cases hl:l.length=m.length
 case neg=>
  have e:(l==m)=false:=by simp;rintro rfl;exact hl rfl
  rw[e];refine aa.of Tryz.func102 rfl (ab enters Tryz.func102 rfl) (by simp[Tryz.ntmps102]) ?_;show W Tryz.prog 26 0 none _ _ _;refine W.vc (by decide) ?_
  repeat'(first|(simp(disch:=first|omega|(simp only[zL];omega))only[go_sem,Nat.reduceEqDiff,↓reduceIte,Nat.reduceAdd,Nat.reduceMul,Nat.reduceSub,Nat.reduceLeDiff,Nat.reduceLT,Int.reduceToNat,Int.reduceLE]))
  exact⟨_,rfl,_,rfl,.refl _⟩
 refine aa.of Tryz.func102 rfl (ab enters Tryz.func102 rfl) (by simp[Tryz.ntmps102]) ?_;show W Tryz.prog 26 0 none _ _ _;refine W.vc (by decide) ?_
 repeat'(first|(simp(disch:=first|omega|(simp only[zL];omega))only[go_sem,Nat.reduceEqDiff,↓reduceIte,Nat.reduceAdd,Nat.reduceMul,Nat.reduceSub,Nat.reduceLeDiff,Nat.reduceLT,Int.reduceToNat,Int.reduceLE]))
 refine W.bh (X:=Nat) (fun i=>[(13,.int .i64 (i:Int)),(12,.int .i64 l.length),(0,.vsl 0 x (l.map .str)),(1,.vsl 0 y (m.map .str))]) (fun _=>[]) (fun i=>i≤l.length∧l.take i=m.take i) (fun i=>l.length - i) 0 ⟨Nat.zero_le _,rfl⟩ ⟨rfl,rfl,rfl,rfl,trivial⟩ rfl ?_;rintro i ⟨hi,ht⟩;refine .vc (by decide) ?_;by_cases h:i<l.length
 ·obtain⟨u,hu,_⟩:=drop_at h
  obtain⟨v,hv,_⟩:=drop_at (show i<m.length by omega);have h1:∀H,ah Tryz.prog 25 (.vsl 0 x (l.map .str)) (.int .i64 (i:Int)) H=some (.vptr [.str u]):=fun H=>dW (v:=.str u) (by simp[hu]) rfl H;have h2:∀H,ah Tryz.prog 25 (.vsl 0 y (m.map .str)) (.int .i64 (i:Int)) H=some (.vptr [.str v]):=fun H=>dW (v:=.str v) (by simp[hv]) rfl H;cases hc:(u==v)with
  |true=>
   have hn:=yb ht hu hv (by simpa using hc)
   repeat'(first|(simp(disch:=first|omega|(simp only[zL];omega))only[go_sem,Nat.reduceEqDiff,↓reduceIte,Nat.reduceAdd,Nat.reduceMul,Nat.reduceSub,Nat.reduceLeDiff,Nat.reduceLT,Int.reduceToNat,Int.reduceLE]))
   refine W.aO [] [false,false,false,false,false,false,false,false,false] [] mixed (by kernel_rfl) (by kernel_rfl) (by kernel_rfl) ?_
   repeat'(first|(simp(disch:=first|omega|(simp only[zL];omega))only[go_sem,Nat.reduceEqDiff,↓reduceIte,Nat.reduceAdd,Nat.reduceMul,Nat.reduceSub,Nat.reduceLeDiff,Nat.reduceLT,Int.reduceToNat,Int.reduceLE,h1,h2,hc]))
   exact⟨i+1,⟨by omega,hn⟩,by omega,rfl,rfl,rfl,rfl,trivial⟩
  |false=>
   have e:(l==m)=false:=by simpa using FH hu hv (by simpa using hc)
   rw[e]
   repeat'(first|(simp(disch:=first|omega|(simp only[zL];omega))only[go_sem,Nat.reduceEqDiff,↓reduceIte,Nat.reduceAdd,Nat.reduceMul,Nat.reduceSub,Nat.reduceLeDiff,Nat.reduceLT,Int.reduceToNat,Int.reduceLE]))
   refine W.aO [] [false,false,false,false,false,false,false,false,false] [] mixed (by kernel_rfl) (by kernel_rfl) (by kernel_rfl) ?_
   repeat'(first|(simp(disch:=first|omega|(simp only[zL];omega))only[go_sem,Nat.reduceEqDiff,↓reduceIte,Nat.reduceAdd,Nat.reduceMul,Nat.reduceSub,Nat.reduceLeDiff,Nat.reduceLT,Int.reduceToNat,Int.reduceLE,h1,h2,hc]))
   exact⟨_,rfl,_,rfl,.refl _⟩
 ·have e:i=l.length:=by omega
  subst e;have e:(l==m)=true:=by
   rw[List.take_length,hl,List.take_length]at ht;simp[ht]
  rw[e]
  repeat'(first|(simp(disch:=first|omega|(simp only[zL];omega))only[go_sem,Nat.reduceEqDiff,↓reduceIte,Nat.reduceAdd,Nat.reduceMul,Nat.reduceSub,Nat.reduceLeDiff,Nat.reduceLT,Int.reduceToNat,Int.reduceLE]))
  exact⟨_,rfl,_,rfl,.refl _⟩
/-! ### The reference's -/
theorem Jw(f:Nat)(hf:f<8):aa Tryz.prog 117 [.int .i64 (f:Int)] (.ret (.int .i64 (fi f:Int))):=by
 by_cases h:6≤f
 case pos=>
  have e:fi f=8:=if_pos h;rw[e];refine aa.of Tryz.func117 rfl (ab enters Tryz.func117 rfl) (by simp[Tryz.ntmps117]) ?_;show W Tryz.prog 5 0 none _ _ _;refine W.vc (by decide) ?_
  repeat'(first|(simp(disch:=first|omega|(simp only[zL];omega))only[go_sem,Nat.reduceEqDiff,↓reduceIte,Nat.reduceAdd,Nat.reduceMul,Nat.reduceSub,Nat.reduceLeDiff,Nat.reduceLT,Int.reduceToNat,Int.reduceLE]))
  exact⟨_,rfl,_,rfl,.refl _⟩
 case neg=>
  have e:fi f=1:=if_neg h;rw[e];refine aa.of Tryz.func117 rfl (ab enters Tryz.func117 rfl) (by simp[Tryz.ntmps117]) ?_;show W Tryz.prog 5 0 none _ _ _;refine W.vc (by decide) ?_
  repeat'(first|(simp(disch:=first|omega|(simp only[zL];omega))only[go_sem,Nat.reduceEqDiff,↓reduceIte,Nat.reduceAdd,Nat.reduceMul,Nat.reduceSub,Nat.reduceLeDiff,Nat.reduceLT,Int.reduceToNat,Int.reduceLE]))
  exact⟨_,rfl,_,rfl,.refl _⟩
def dx(f:Nat)(l:List Bytes):Bool:=dp f l&&(decide (f≠0)||decide (l.length=1))
def nJ(f:Nat)(l:List Bytes)(i:Nat):Bool:=(l.drop i).all (eO f)&&kX (l.drop (i - 1))
theorem wJ{f:Nat}{l:List Bytes}{i:Nat}{u:Bytes}(hu:l[i]? =some u):nJ f l i=((eO f u&&(decide (i=0)||match l[i - 1]? with|some v=>Op.bytesLess v u|none=>true))&&nJ f l (i+1)):=by
 have hi:=(List.getElem?_eq_some_iff.1 hu).1;obtain⟨u',hu',hd⟩:=drop_at hi;rw[hu]at hu';cases hu';unfold nJ;rw[hd,List.all_cons];cases i with
 |zero=>
  simp only[Nat.zero_sub,Nat.add_sub_cancel,decide_true,Bool.true_or,Bool.and_true];rw[hd,Bool.and_assoc]
 |succ i=>
  obtain⟨v,hv,hd2⟩:=drop_at (show i<l.length by omega);simp only[Nat.add_sub_cancel,hv];rw[re hv hu];simp only[Nat.succ_ne_zero,decide_false,Bool.false_or];cases eO f u<;>cases Op.bytesLess v u<;>simp
theorem zt{f:Nat}{s:Bytes}{k:Nat}{x:UInt8}(h:s[k]? =some x)(h0:(s.drop k).all (okK f)=s.all (okK f)):(okK f x&&(s.drop (k+1)).all (okK f))=s.all (okK f):=by
 obtain⟨y,hy,hd⟩:=drop_at (List.getElem?_eq_some_iff.1 h).1;rw[h]at hy;cases hy;rw[←h0,hd,List.all_cons]
set_option maxRecDepth 8000 in
theorem Ev (f:Nat) (hf:f<8) (x:Bool) (l:List Bytes):aa Tryz.prog 66 [.int .i64 (f:Int),.vsl 0 x (l.map .str)] (.ret (.bool (dx f l))):=by
  refine aa.fit fun hfit=> ?_;have hb:(l.map AV.str).length≤9223372036854775807:=hfit (.vsl 0 x (l.map .str)) (by simp);rw[List.length_map]at hb;have hm:=Jw f hf;have hm8:fi f≤8:=by unfold fi;split<;>omega
  by_cases q1:l.length>fi f
  case pos=>
    have e:dx f l=false:=by unfold dx dp;rw[decide_eq_false (by omega)];rfl
    rw[e];refine aa.of Tryz.func66 rfl (ab enters Tryz.func66 rfl) (by simp[Tryz.ntmps66]) ?_;show W Tryz.prog 83 0 none _ _ _;refine W.vc (by decide) ?_
    repeat'(first|(simp(disch:=first|omega|(simp only[zL];omega))only[go_sem,Nat.reduceEqDiff,↓reduceIte,Nat.reduceAdd,Nat.reduceMul,Nat.reduceSub,Nat.reduceLeDiff,Nat.reduceLT,Int.reduceToNat,Int.reduceLE])|((with_reducible first|apply aj.pure|apply an.pure);(with_reducible exact hm);(first|rfl|simp only[go_sem])))
    exact⟨_,rfl,_,rfl,.refl _⟩
  have q1':l.length≤fi f:=by omega
  by_cases q2:f=0∧l.length≠1
  case pos=>
    obtain⟨q2,q3⟩:=q2;have e:dx f l=false:=by unfold dx;simp[q2,q3]
    rw[e];subst q2;refine aa.of Tryz.func66 rfl (ab enters Tryz.func66 rfl) (by simp[Tryz.ntmps66]) ?_;show W Tryz.prog 83 0 none _ _ _;refine W.vc (by decide) ?_
    repeat'(first|(simp(disch:=first|omega|(simp only[zL];omega))only[go_sem,Nat.reduceEqDiff,↓reduceIte,Nat.reduceAdd,Nat.reduceMul,Nat.reduceSub,Nat.reduceLeDiff,Nat.reduceLT,Int.reduceToNat,Int.reduceLE])|((with_reducible first|apply aj.pure|apply an.pure);(with_reducible exact hm);(first|rfl|simp only[go_sem])))
    exact⟨_,rfl,_,rfl,.refl _⟩
  have hv :dx f l=nJ f l 0:=by
    have:(decide (f≠0)||decide (l.length=1))=true:=by
      by_cases h:f=0
      · have:l.length=1:=by
          rcases Nat.decEq l.length 1 with h1|h1
          · exact(q2 ⟨h,h1⟩).elim
          · exact h1
        simp[this]
      · simp[h]
    unfold dx dp nJ;rw[this,Bool.and_true,decide_eq_true q1',Bool.true_and];rfl
  rw[hv];obtain⟨r0,hr0⟩: ∃r0,r0=nJ f l 0:=⟨_,rfl⟩
  rw[←hr0];refine aa.of Tryz.func66 rfl (ab enters Tryz.func66 rfl) (by simp[Tryz.ntmps66]) ?_;show W Tryz.prog 83 0 none _ _ _;refine .seq (.vc (by decide) ?_)
  repeat'(first|(simp(disch:=first|omega|(simp only[zL];omega))only[go_sem,Nat.reduceEqDiff,↓reduceIte,Nat.reduceAdd,Nat.reduceMul,Nat.reduceSub,Nat.reduceLeDiff,Nat.reduceLT,Int.reduceToNat,Int.reduceLE]))
  refine W.oP [(0,.int .i64 (f:Int)),(1,.vsl 0 x (l.map .str))] [] (.vc (by decide) ?_) ?_
  · by_cases h0:f=0
    · have h1:l.length=1:=by
        rcases Nat.decEq l.length 1 with h1|h1
        · exact(q2 ⟨h0,h1⟩).elim
        · exact h1
      repeat'(first|(simp(disch:=first|omega|(simp only[zL];omega))only[go_sem,Nat.reduceEqDiff,↓reduceIte,Nat.reduceAdd,Nat.reduceMul,Nat.reduceSub,Nat.reduceLeDiff,Nat.reduceLT,Int.reduceToNat,Int.reduceLE])|((with_reducible first|apply aj.pure|apply an.pure);(with_reducible exact hm);(first|rfl|simp only[go_sem])))
      exact⟨rfl,rfl,trivial⟩
    · repeat'(first|(simp(disch:=first|omega|(simp only[zL];omega))only[go_sem,Nat.reduceEqDiff,↓reduceIte,Nat.reduceAdd,Nat.reduceMul,Nat.reduceSub,Nat.reduceLeDiff,Nat.reduceLT,Int.reduceToNat,Int.reduceLE])|((with_reducible first|apply aj.pure|apply an.pure);(with_reducible exact hm);(first|rfl|simp only[go_sem])))
      exact⟨rfl,rfl,trivial⟩
  refine .vc (by decide) ?_
  repeat'(first|(simp(disch:=first|omega|(simp only[zL];omega))only[go_sem,Nat.reduceEqDiff,↓reduceIte,Nat.reduceAdd,Nat.reduceMul,Nat.reduceSub,Nat.reduceLeDiff,Nat.reduceLT,Int.reduceToNat,Int.reduceLE]))
  refine W.bh (X:=Nat) (fun i=>[(5,.int .i64 (i:Int)),(0,.int .i64 (f:Int)),(1,.vsl 0 x (l.map .str))]) (fun _=>[]) (fun i=>i≤l.length∧nJ f l i=r0) (fun i=>l.length - i) 0 ⟨Nat.zero_le _,hr0.symm⟩ ⟨rfl,rfl,rfl,trivial⟩ rfl ?_;rintro i ⟨hi,ht⟩;by_cases h:i<l.length
  case neg=>
    have e:i=l.length:=by omega
    subst e;have e:r0=true:=by
      rw[←ht];unfold nJ;rw[List.drop_length];have:(l.drop (l.length - 1)).length≤1:=by simp;omega
      match l.drop (l.length - 1),this with
      | [],_=>rfl
      | [_],_=>rfl
    rw[e];refine .vc (by decide) ?_
    repeat'(first|(simp(disch:=first|omega|(simp only[zL];omega))only[go_sem,Nat.reduceEqDiff,↓reduceIte,Nat.reduceAdd,Nat.reduceMul,Nat.reduceSub,Nat.reduceLeDiff,Nat.reduceLT,Int.reduceToNat,Int.reduceLE]))
    exact⟨_,rfl,_,rfl,.refl _⟩
  obtain⟨u,hu,_⟩:=drop_at h;have h1: ∀H,ah Tryz.prog 25 (.vsl 0 x (l.map .str)) (.int .i64 (i:Int)) H=some (.vptr [.str u]):=fun H=>dW (v:=.str u) (by simp[hu]) rfl H;rw[wJ hu]at ht;obtain⟨lo,hlo⟩: ∃lo,lo=(decide (i=0)||match l[i - 1]? with|some v=>Op.bytesLess v u|none=>true):=⟨_,rfl⟩
  rw[←hlo]at ht;have bad:(eO f u&&lo)=false→r0=false:=by
    intro h;rw[←ht,h];rfl
  refine .seq (.vc (by decide) ?_)
  repeat'(first|(simp(disch:=first|omega|(simp only[zL];omega))only[go_sem,Nat.reduceEqDiff,↓reduceIte,Nat.reduceAdd,Nat.reduceMul,Nat.reduceSub,Nat.reduceLeDiff,Nat.reduceLT,Int.reduceToNat,Int.reduceLE]))
  refine .seq (.block (W.rZ (1≤u.length∧u.length≤200∧lo=true) [(5,.int .i64 (i:Int)),(0,.int .i64 (f:Int)),(1,.vsl 0 x (l.map .str))] [] ?_ ?_))
  · by_cases c1 : u.length<1
    · rw [bad (by have:eO f u=false:=by unfold eO;rw[decide_eq_false (show¬1≤u.length by omega)];simp
                  rw[this];rfl)]
      refine .vc (by decide) ?_
      repeat'(first|(simp(disch:=first|omega|(simp only[zL];omega))only[go_sem,Nat.reduceEqDiff,↓reduceIte,Nat.reduceAdd,Nat.reduceMul,Nat.reduceSub,Nat.reduceLeDiff,Nat.reduceLT,Int.reduceToNat,Int.reduceLE]))
      refine W.aO [] [false,false,false,false,false,false,false,false,false,false,false,false,false,false,false,false,false,false,false,false,false,false,false,false,false,false,false,false,false,false] [] mixed (by kernel_rfl) (by kernel_rfl) (by kernel_rfl) ?_
      repeat'(first|(simp(disch:=first|omega|(simp only[zL];omega))only[go_sem,Nat.reduceEqDiff,↓reduceIte,Nat.reduceAdd,Nat.reduceMul,Nat.reduceSub,Nat.reduceLeDiff,Nat.reduceLT,Int.reduceToNat,Int.reduceLE,h1]))
      exact⟨_,rfl,_,rfl,.refl _⟩
    by_cases c2:u.length>200
    · rw [bad (by have:eO f u=false:=by unfold eO;rw[decide_eq_false (show¬u.length≤200 by omega)];simp
                  rw[this];rfl)]
      refine .vc (by decide) ?_
      repeat'(first|(simp(disch:=first|omega|(simp only[zL];omega))only[go_sem,Nat.reduceEqDiff,↓reduceIte,Nat.reduceAdd,Nat.reduceMul,Nat.reduceSub,Nat.reduceLeDiff,Nat.reduceLT,Int.reduceToNat,Int.reduceLE]))
      refine W.aO [] [false,false,false,false,false,false,false,false,false,false,false,false,false,false,false,false,false,false,false,false,false,false,false,false,false,false,false,false,false,false] [] mixed (by kernel_rfl) (by kernel_rfl) (by kernel_rfl) ?_
      repeat'(first|(simp(disch:=first|omega|(simp only[zL];omega))only[go_sem,Nat.reduceEqDiff,↓reduceIte,Nat.reduceAdd,Nat.reduceMul,Nat.reduceSub,Nat.reduceLeDiff,Nat.reduceLT,Int.reduceToNat,Int.reduceLE,h1]))
      exact⟨_,rfl,_,rfl,.refl _⟩
    by_cases hi0:i=0
    · subst hi0
      refine .vc (by decide) ?_
      repeat'(first|(simp(disch:=first|omega|(simp only[zL];omega))only[go_sem,Nat.reduceEqDiff,↓reduceIte,Nat.reduceAdd,Nat.reduceMul,Nat.reduceSub,Nat.reduceLeDiff,Nat.reduceLT,Int.reduceToNat,Int.reduceLE]))
      refine W.aO [] [false,false,false,false,false,false,false,false,false,false,false,false,false,false,false,false,false,false,false,false,false,false,false,false,false,false,false,false,false,false] [] mixed (by kernel_rfl) (by kernel_rfl) (by kernel_rfl) ?_
      repeat'(first|(simp(disch:=first|omega|(simp only[zL];omega))only[go_sem,Nat.reduceEqDiff,↓reduceIte,Nat.reduceAdd,Nat.reduceMul,Nat.reduceSub,Nat.reduceLeDiff,Nat.reduceLT,Int.reduceToNat,Int.reduceLE,h1]))
      exact⟨⟨by omega,by omega,by rw[hlo];rfl⟩,rfl,rfl,rfl,trivial⟩
    · obtain⟨v,hv,_⟩:=drop_at (show i - 1<l.length by omega)
      have h2: ∀H,ah Tryz.prog 25 (.vsl 0 x (l.map .str)) (.int .i64 ((i:Int) - 1)) H=some (.vptr [.str v]):=by
        intro H;have:((i:Int) - 1)=((i - 1:Nat):Int):=by omega
        rw[this];exact dW (v:=.str v) (by simp[hv]) rfl H
      rw[hv]at hlo;simp only[hi0,decide_false,Bool.false_or]at hlo;cases hless:Op.bytesLess v u with
      | false=>
        rw[hless]at hlo;rw[bad (by rw[hlo];simp)];refine .vc (by decide) ?_
        repeat'(first|(simp(disch:=first|omega|(simp only[zL];omega))only[go_sem,Nat.reduceEqDiff,↓reduceIte,Nat.reduceAdd,Nat.reduceMul,Nat.reduceSub,Nat.reduceLeDiff,Nat.reduceLT,Int.reduceToNat,Int.reduceLE]))
        refine W.aO [] [false,false,false,false,false,false,false,false,false,false,false,false,false,false,false,false,false,false,false,false,false,false,false,false,false,false,false,false,false,false] [] mixed (by kernel_rfl) (by kernel_rfl) (by kernel_rfl) ?_
        repeat'(first|(simp(disch:=first|omega|(simp only[zL];omega))only[go_sem,Nat.reduceEqDiff,↓reduceIte,Nat.reduceAdd,Nat.reduceMul,Nat.reduceSub,Nat.reduceLeDiff,Nat.reduceLT,Int.reduceToNat,Int.reduceLE,h1,h2,sI,hless]))
        exact⟨_,rfl,_,rfl,.refl _⟩
      | true=>
        rw[hless]at hlo;refine .vc (by decide) ?_
        repeat'(first|(simp(disch:=first|omega|(simp only[zL];omega))only[go_sem,Nat.reduceEqDiff,↓reduceIte,Nat.reduceAdd,Nat.reduceMul,Nat.reduceSub,Nat.reduceLeDiff,Nat.reduceLT,Int.reduceToNat,Int.reduceLE]))
        refine W.aO [] [false,false,false,false,false,false,false,false,false,false,false,false,false,false,false,false,false,false,false,false,false,false,false,false,false,false,false,false,false,false] [] mixed (by kernel_rfl) (by kernel_rfl) (by kernel_rfl) ?_
        repeat'(first|(simp(disch:=first|omega|(simp only[zL];omega))only[go_sem,Nat.reduceEqDiff,↓reduceIte,Nat.reduceAdd,Nat.reduceMul,Nat.reduceSub,Nat.reduceLeDiff,Nat.reduceLT,Int.reduceToNat,Int.reduceLE,h1,h2,sI,hless]))
        exact⟨⟨by omega,by omega,hlo⟩,rfl,rfl,rfl,trivial⟩
  rintro⟨c1,c2,hl1⟩;have hvu:eO f u=u.all (okK f):=by unfold eO;rw[decide_eq_true c1,decide_eq_true c2];simp
  rw[hvu,hl1,Bool.and_true]at ht;have bad2:u.all (okK f)=false→r0=false:=by intro h;rw[←ht,h];rfl
  refine .vc (by decide) ?_
  repeat'(first|(simp(disch:=first|omega|(simp only[zL];omega))only[go_sem,Nat.reduceEqDiff,↓reduceIte,Nat.reduceAdd,Nat.reduceMul,Nat.reduceSub,Nat.reduceLeDiff,Nat.reduceLT,Int.reduceToNat,Int.reduceLE]))
  refine W.bh (X:=Nat) (fun k=>[(6,.int .i64 (k:Int)),(5,.int .i64 (i:Int)),(0,.int .i64 (f:Int)),(1,.vsl 0 x (l.map .str))]) (fun _=>[]) (fun k=>k≤u.length∧(u.drop k).all (okK f)=u.all (okK f)) (fun k=>u.length - k) 0 ⟨Nat.zero_le _,rfl⟩ ⟨rfl,rfl,rfl,rfl,trivial⟩ rfl ?_;rintro k ⟨hk,hall⟩;refine .vc (by decide) ?_;by_cases hku:k<u.length
  · obtain⟨y,hy,_⟩:=drop_at hku
    have hnext:=zt hy hall;by_cases d1:y.toNat<32
    · by_cases d2:y.toNat=10
      · by_cases d3:f=5
        · have hok:okK f y=true:=by simp[okK,d2,d3]
          rw[hok,Bool.true_and]at hnext
          repeat'(first|(simp(disch:=first|omega|(simp only[zL];omega))only[go_sem,Nat.reduceEqDiff,↓reduceIte,Nat.reduceAdd,Nat.reduceMul,Nat.reduceSub,Nat.reduceLeDiff,Nat.reduceLT,Int.reduceToNat,Int.reduceLE,h1,xi9 hy]))
          exact⟨k+1,⟨by omega,hnext⟩,by omega,rfl,rfl,rfl,rfl,trivial⟩
        · have hok:okK f y=false:=by simp[okK,d2,d3]
          rw[bad2 (by rw[←hnext,hok];rfl)]
          repeat'(first|(simp(disch:=first|omega|(simp only[zL];omega))only[go_sem,Nat.reduceEqDiff,↓reduceIte,Nat.reduceAdd,Nat.reduceMul,Nat.reduceSub,Nat.reduceLeDiff,Nat.reduceLT,Int.reduceToNat,Int.reduceLE,h1,xi9 hy]))
          exact⟨_,rfl,_,rfl,.refl _⟩
      · have hok:okK f y=false:=by simp[okK,d1,d2]
        rw[bad2 (by rw[←hnext,hok];rfl)]
        repeat'(first|(simp(disch:=first|omega|(simp only[zL];omega))only[go_sem,Nat.reduceEqDiff,↓reduceIte,Nat.reduceAdd,Nat.reduceMul,Nat.reduceSub,Nat.reduceLeDiff,Nat.reduceLT,Int.reduceToNat,Int.reduceLE,h1,xi9 hy]))
        exact⟨_,rfl,_,rfl,.refl _⟩
    · have hok:okK f y=true:=by simp[okK,d1]
      rw[hok,Bool.true_and]at hnext
      repeat'(first|(simp(disch:=first|omega|(simp only[zL];omega))only[go_sem,Nat.reduceEqDiff,↓reduceIte,Nat.reduceAdd,Nat.reduceMul,Nat.reduceSub,Nat.reduceLeDiff,Nat.reduceLT,Int.reduceToNat,Int.reduceLE,h1,xi9 hy]))
      exact⟨k+1,⟨by omega,hnext⟩,by omega,rfl,rfl,rfl,rfl,trivial⟩
  · have e:k=u.length:=by omega
    subst e;rw[List.drop_length]at hall;rw[←hall]at ht
    repeat'(first|(simp(disch:=first|omega|(simp only[zL];omega))only[go_sem,Nat.reduceEqDiff,↓reduceIte,Nat.reduceAdd,Nat.reduceMul,Nat.reduceSub,Nat.reduceLeDiff,Nat.reduceLT,Int.reduceToNat,Int.reduceLE,h1]))
    refine .vc (by decide) ?_
    repeat'(first|(simp(disch:=first|omega|(simp only[zL];omega))only[go_sem,Nat.reduceEqDiff,↓reduceIte,Nat.reduceAdd,Nat.reduceMul,Nat.reduceSub,Nat.reduceLeDiff,Nat.reduceLT,Int.reduceToNat,Int.reduceLE]))
    exact⟨i+1,⟨by omega,by rw[←ht];rfl⟩,by omega,rfl,rfl,rfl,trivial⟩
theorem Hl(x:Nat→List Bytes):(List.range 8).all (fun f=>dx f (x f))=br x:=by
 have h:∀f,dx f (x f)=(dp f (x f)&&(decide (f≠0)||decide ((x f).length=1))):=fun f=>rfl;have e:List.range 8=0::[1,2,3,4,5,6,7]:=rfl;unfold br;rw[e];simp only[List.all_cons,List.all_nil,h];simp only[ne_eq,not_true_eq_false,decide_false,Bool.false_or,Nat.succ_ne_zero,not_false_eq_true,decide_true,Bool.true_or,Bool.and_true];cases dp 0 (x 0)<;>cases decide ((x 0).length=1)<;>simp
theorem kG(H:List OB)(id i:Nat)(c:List Val)(v:Val)(b:Bool)(h:H[id]? =some (.cells (c.map av) b))(hv:c[i]? =some v):al Tryz.prog 25 (.ptr id i) H=some (av v):=by
 have hcu:(c.map av)[i]? =some (av v):=by simp[hv]
 rw[vX];simp only[ldC,h,hcu]
theorem wK(p:Nat→Bool){i n:Nat}(hi:i<n)(h:(List.range i).all p=true)(hp:p i=false):(List.range n).all p=false:=by
 rw[List.all_eq_false];exact⟨i,List.mem_range.2 hi,by simp[hp]⟩
theorem wL(p:Nat→Bool){i:Nat}(h:(List.range i).all p=true)(hp:p i=true):(List.range (i+1)).all p=true:=by
 rw[List.range_succ,List.all_append,h];simp[hp]
set_option maxRecDepth 8000 in
theorem pG(c:List Val)(hc:c.length=8):aa Tryz.prog 28 [.agg (c.map av)] (.ret (.bool (br (ar c)))):=by
 rw[←Hl];obtain⟨b,hb⟩:∃b,b=(List.range 8).all (fun f=>dx f (ar c f)):=⟨_,rfl⟩
 rw[←hb];refine aa.of Tryz.func28 rfl (ab enters Tryz.func28 rfl) (by simp[Tryz.ntmps28]) ?_;show W Tryz.prog 14 0 none _ _ _;refine W.vc (by decide) ?_
 repeat'(first|(simp(disch:=first|omega|(simp only[zL];omega))only[go_sem,seval]))
 refine W.bh (X:=Nat) (fun i=>[(3,.int .i64 (i:Int)),(1,.ptr 0 0)]) (fun _=>[.cells (c.map av) false]) (fun i=>i≤8∧(List.range i).all (fun f=>dx f (ar c f))=true) (fun i=>8 - i) 0 ⟨Nat.zero_le _,rfl⟩ ⟨rfl,rfl,trivial⟩ rfl ?_;rintro i ⟨hi,ht⟩;refine .vc (by decide) ?_;by_cases h:i<8
 ·obtain⟨v,hv⟩:∃v,c[i]? =some v:=⟨_,List.getElem?_eq_getElem (by omega)⟩
  have hia:∀H,ah Tryz.prog 27 (.ptr 0 0) (.int .i64 (i:Int)) H=some (.ptr 0 i):=eG 0 i h;have hld:=kG [.cells (c.map av) false] 0 i c v false rfl hv;have hvr:aa Tryz.prog 66 [.int .i64 (i:Int),av v] (.ret (.bool (dx i v.2))):=Ev i h v.1 v.2;have hf:=eP c i v hv;cases hk:dx i v.2 with
  |true=>
   rw[hk]at hvr
   repeat'(first|(simp(disch:=first|omega|(simp only[zL];omega))only[go_sem,seval,hia,hld])|((with_reducible first|apply aj.pure|apply an.pure);(with_reducible exact hvr);(first|rfl|simp only[go_sem,av,aF])))
   exact⟨i+1,⟨by omega,wL _ ht (by rw[hf];exact hk)⟩,by omega,rfl,rfl,trivial⟩
  |false=>
   rw[hk]at hvr;have e:b=false:=by rw[hb];exact wK _ h ht (by rw[hf];exact hk)
   rw[e]
   repeat'(first|(simp(disch:=first|omega|(simp only[zL];omega))only[go_sem,seval,hia,hld])|((with_reducible first|apply aj.pure|apply an.pure);(with_reducible exact hvr);(first|rfl|simp only[go_sem,av,aF])))
   exact⟨_,rfl,_,rfl,.refl _⟩
 ·have e:i=8:=by omega
  subst e;have e:b=true:=by rw[hb];exact ht
  rw[e]
  repeat'(first|(simp(disch:=first|omega|(simp only[zL];omega))only[go_sem,seval]))
  exact⟨_,rfl,_,rfl,.refl _⟩
/-! ### Contacts held against contacts -/
def gE(a b:List Val):Bool:=(List.range 8).all fun f=>ar a f==ar b f
def mh(n:Nat):AV:=.int .i64 (n:Int)
def gX(a b:List Val)(n:Nat):List Nat:=(List.range n).filter fun f=>!(ar a f==ar b f)
theorem zu(a b:List Val)(n:Nat):gX a b (n+1)=gX a b n++(if ar a n==ar b n then []else [n]):=by
 unfold gX;rw[List.range_succ,List.filter_append];cases h:ar a n==ar b n<;>simp[h]
theorem zv(a b:List Val):decide ((gX a b 8).length=0)=gE a b:=by
 unfold gX gE;rw[Bool.eq_iff_iff];simp only[decide_eq_true_eq,List.length_eq_zero_iff,List.filter_eq_nil_iff,List.all_eq_true,Bool.not_eq_true',Bool.not_eq_false]
theorem BK(a b:List Val)(n:Nat):(gX a b n).length≤n:=by
 have:=List.length_filter_le (fun f=>!(ar a f==ar b f)) (List.range n);simpa[gX]using this
theorem apI:apT Tryz.prog 3=some (1,0,8):=by kernel_rfl
theorem BL(l:List Nat):(l.map mh).all AV.one=true:=by
 rw[List.all_eq_true];intro v hv;obtain⟨r,_,rfl⟩:=List.mem_map.1 hv;rfl
theorem BM(l:List Nat):AV.hfs (l.map mh)=true:=by
 rw[be,List.all_eq_true];intro v hv;obtain⟨r,_,rfl⟩:=List.mem_map.1 hv;rfl
set_option maxRecDepth 8000 in
theorem Ew(a b:List Val)(ha:a.length=8)(hb:b.length=8):aa Tryz.prog 38 [.agg (a.map av),.agg (b.map av)] (.ret (.vsl 0 false ((gX a b 8).map mh))):=by
 refine aa.of Tryz.func38 rfl (ab enters Tryz.func38 rfl) (by simp[Tryz.ntmps38]) ?_;show W Tryz.prog 24 0 none _ _ _;refine W.vc (by decide) ?_
 repeat'(first|(simp(disch:=first|omega|(simp only[zL];omega))only[go_sem,seval]))
 refine W.bh (X:=Nat×Nat×Bool) (fun y=>[(6,.int .i64 (y.1:Int)),(5,bJ 2 0 0 mh y.2.1 y.2.2 (gX a b y.1)),(2,.ptr 0 0),(3,.ptr 1 0)]) (fun y=>mem [.cells (a.map av) false,.cells (b.map av) false] mh y.2.1 0 y.2.2 (gX a b y.1)) (fun y=>y.1≤8∧(y.2.2=false→gX a b y.1=[])) (fun y=>8 - y.1) (0,0,false) ⟨Nat.zero_le _,fun _=>rfl⟩ ⟨rfl,rfl,rfl,rfl,trivial⟩ rfl ?_;rintro⟨i,k,z⟩ ⟨hi,hz⟩;simp only at hi hz ⊢;refine .vc (by decide) ?_;obtain⟨M,hM⟩:∃M,M=mem [.cells (a.map av) false,.cells (b.map av) false] mh k 0 z (gX a b i):=⟨_,rfl⟩
 have m0:M[0]? =some (.cells (a.map av) false):=by rw[hM,lP (by simp)];rfl
 have m1:M[1]? =some (.cells (b.map av) false):=by rw[hM,lP (by simp)];rfl
 have hde:deN (bJ 2 0 0 mh k z (gX a b i))=bJ 2 0 0 mh k z (gX a b i):=eX _ _ _ _ _ _ _;rw[←hM];by_cases h:i<8
 ·obtain⟨u,hu⟩:∃v,a[i]? =some v:=⟨_,List.getElem?_eq_getElem (by omega)⟩
  obtain⟨v,hv⟩:∃v,b[i]? =some v:=⟨_,List.getElem?_eq_getElem (by omega)⟩
  have hia:∀id H,ah Tryz.prog 27 (.ptr id 0) (.int .i64 (i:Int)) H=some (.ptr id i):=fun id=>eG id i h;have hl0:=kG M 0 i a u false m0 hu;have hl1:=kG M 1 i b v false m1 hv;have htx:aa Tryz.prog 77 [av u,av v] (.ret (.bool (u.2==v.2))):=Hj u.1 v.1 u.2 v.2;have hfa:=eP a i u hu;have hfb:=eP b i v hv;have hsc:=zu a b i;rw[hfa,hfb]at hsc;cases hk:(u.2==v.2)with
  |true=>
   rw[hk]at htx hsc;simp only[if_true,List.append_nil]at hsc
   repeat'(first|(simp(disch:=first|omega|(simp only[zL];omega))only[go_sem,seval]))
   refine W.aO [6] [false,false,false,false,false,false,true,false] [] mixed (by kernel_rfl) (by kernel_rfl) (by kernel_rfl) ?_
   repeat'(first|(simp(disch:=first|omega|(simp only[zL];omega))only[go_sem,seval,hia,hl0,hl1])|((with_reducible first|apply aj.pure|apply an.pure);(with_reducible exact htx);(first|rfl|simp only[go_sem,av,aF])))
   exact⟨(i+1,k,z),⟨by simp only;omega,by simp only;rw[hsc];exact hz⟩,by simp only;omega,⟨rfl,by simp only[Av.get,Nat.reduceEqDiff,↓reduceIte];rw[hsc],rfl,rfl,trivial⟩,by simp only;rw[hsc];exact hM⟩
  | false=>
   rw[hk]at htx hsc;simp only[Bool.false_eq_true,if_false]at hsc;have hap:=lT (wd:=0) (w0:=0) (bytes:=8) Tryz.underlying64 apI mh (fun _=>rfl) (fun _=>rfl) (by decide) [.cells (a.map av) false,.cells (b.map av) false] k z (gX a b i) (fun _=>.inl rfl) i true (by have:=BK a b i;omega);rw[←hM,←hsc]at hap;have hap:aG Tryz.prog 64 64 (bJ 2 0 0 mh k z (gX a b i)) (.vsl 0 true [.int .i64 (i:Int)]) M=some (bJ 2 0 0 mh (if z then k+1 else k) true (gX a b (i+1)),mem [.cells (a.map av) false,.cells (b.map av) false] mh (if z then k+1 else k) 0 true (gX a b (i+1))):=hap
   have hbs:aw Tryz.prog 64 1 [(0,.int .i64 (i:Int))]=some (.vsl 0 true [.int .i64 (i:Int)]):=by
    simp[aw,Tryz.underlying64,apI,AV.cells,AV.told,List.range']
   repeat'(first|(simp(disch:=first|omega|(simp only[zL];omega))only[go_sem,seval]))
   refine W.aO [6] [false,false,false,false,false,false,true,false] [] mixed (by kernel_rfl) (by kernel_rfl) (by kernel_rfl) ?_
   repeat'(first|(simp(disch:=first|omega|(simp only[zL];omega))only[go_sem,seval,hia,hl0,hl1,hbs,hde,hap])|((with_reducible first|apply aj.pure|apply an.pure);(with_reducible exact htx);(first|rfl|simp only[go_sem,av,aF])))
   exact⟨(i+1,if z then k+1 else k,true),⟨by simp only;omega,(fun h=>by cases h)⟩,by simp only;omega,⟨rfl,rfl,rfl,rfl,trivial⟩,rfl⟩
 ·have e:i=8:=by omega
  subst e
  repeat'(first|(simp(disch:=first|omega|(simp only[zL];omega))only[go_sem,seval]))
  obtain⟨w,hz2,hw⟩:=lR (B:=[.cells (a.map av) false,.cells (b.map av) false]) (f:=mh) (w0:=0) (k:=k) (z:=z) (L:=gX a b 8) (n:=19) (M:=M) (fun hz=>by subst hz;rw[hM];exact gU) (BM _) (BL _);exact nQ 4 rfl rfl rfl hz2 (by rcases hw with rfl|rfl<;>first|exact .exact _ _ _|exact .refl _)
theorem og(a b:List Val)(ha:a.length=8)(hb:b.length=8):aa Tryz.prog 17 [.agg (a.map av),.agg (b.map av)] (.ret (.bool (gE a b))):=by
 have hd:=Ew a b ha hb;have hld:∀(id:Nat) (c:List Val) (H:List OB),c.length=8→H[id]? =some (.cells (c.map av) false)→al Tryz.prog 27 (.ptr id 0) H=some (.agg (c.map av)):=by
  intro id c H hc h;simp[al,Dw,Gb,ldA,hc,h];exact List.take_of_length_le (by simp[hc])
 have h0:=hld 0 a [.cells (a.map av) false,.cells (b.map av) false] ha rfl;have h1:=hld 1 b [.cells (a.map av) false,.cells (b.map av) false] hb rfl;have hs:=zv a b;obtain⟨n,hn⟩:∃n,n=(gX a b 8).length:=⟨_,rfl⟩
 have hln:∀H,aI Tryz.prog 64 (.vsl 0 false ((gX a b 8).map mh)) H=some (.int .i64 (n:Int)):=by intro H;simp[aI,Tryz.underlying64,hn]
 rw[←hn]at hs;by_cases q:n=0
 case pos=>
  rw[decide_eq_true q]at hs;rw[←hs];subst q;refine aa.of Tryz.func17 rfl (ab enters Tryz.func17 rfl) (by simp[Tryz.ntmps17]) ?_;show W Tryz.prog 10 0 none _ _ _;refine W.vc (by decide) ?_
  repeat'(first|(simp(disch:=first|omega|(simp only[zL];omega))only[go_sem,seval,h0,h1,hln])|((with_reducible first|apply aj.pure|apply an.pure);(with_reducible exact hd);(first|rfl|simp only[go_sem,aJ])))
  exact⟨_,rfl,_,rfl,.refl _⟩
 case neg=>
  rw[decide_eq_false q]at hs;rw[←hs];refine aa.of Tryz.func17 rfl (ab enters Tryz.func17 rfl) (by simp[Tryz.ntmps17]) ?_;show W Tryz.prog 10 0 none _ _ _;refine W.vc (by decide) ?_
  repeat'(first|(simp(disch:=first|omega|(simp only[zL];omega))only[go_sem,seval,h0,h1,hln])|((with_reducible first|apply aj.pure|apply an.pure);(with_reducible exact hd);(first|rfl|simp only[go_sem,aJ])))
  exact⟨_,rfl,_,rfl,.refl _⟩
theorem slB{s:Bytes}{i:Nat}{x:UInt8}(h:s[i]? =some x):bo Tryz.prog 9 (.str s) (some (.int .i64 (i:Int))) (some (.int .i64 ((i+1:Nat):Int))) none=some (.str [x]):=by
 have hl:=(List.getElem?_eq_some_iff.1 h).1;obtain⟨y,hy,hd⟩:=drop_at hl;rw[h]at hy;cases hy;rw[ss9,jX _ _ _ _ (by omega) (by omega)];simp[hd]
theorem gF{x:UInt8}(c:UInt8)(h:x.toNat≠c.toNat):x≠c:=fun e=>h (by rw[e])
theorem gG{x:UInt8}(c:UInt8)(h:x.toNat=c.toNat):x=c:=UInt8.toNat_inj.1 h
set_option maxRecDepth 8000 in
theorem zw(s:Bytes)(hs:s.length≤1000000):aa Tryz.prog 79 [.str s] (.ret (.str (esc s))):=by
 have hel:=gD s;refine aa.of Tryz.func79 rfl (ab enters Tryz.func79 rfl) (by simp[Tryz.ntmps79]) ?_;show W Tryz.prog 38 0 none _ _ _;refine W.vc (by decide) ?_
 repeat'(first|(simp(disch:=first|omega|(simp only[zL];omega))only[go_sem,seval]))
 refine W.bh (X:=Nat) (fun i=>[(4,.int .i64 (i:Int)),(3,.str (esc (s.take i))),(0,.str s)]) (fun _=>[]) (fun i=>i≤s.length) (fun i=>s.length - i) 0 (Nat.zero_le _) ⟨rfl,rfl,rfl,trivial⟩ rfl ?_;intro i hi;refine .vc (by decide) ?_;by_cases h:i<s.length
 ·obtain⟨x,hx,hdrop⟩:=drop_at h
  have htk:=uE hx;have hle:=nH s i;have hsl:=slB hx;by_cases h1:x.toNat=92
  ·have e:jE x=[92,x]:=by have:=gG 92 h1;subst this;rfl
   rw[e]at htk
   repeat'(first|(simp(disch:=first|omega|(simp only[zL];omega))only[go_sem,seval,xi9 hx,hsl]))
   exact⟨i+1,by omega,by omega,⟨rfl,by rw[htk];simp[Av.get],rfl,trivial⟩⟩
  by_cases h2:x.toNat=44
  ·have e:jE x=[92,x]:=by have:=gG 44 h2;subst this;rfl
   rw[e]at htk
   repeat'(first|(simp(disch:=first|omega|(simp only[zL];omega))only[go_sem,seval,xi9 hx,hsl]))
   exact⟨i+1,by omega,by omega,⟨rfl,by rw[htk];simp[Av.get],rfl,trivial⟩⟩
  by_cases h3:x.toNat=59
  ·have e:jE x=[92,x]:=by have:=gG 59 h3;subst this;rfl
   rw[e]at htk
   repeat'(first|(simp(disch:=first|omega|(simp only[zL];omega))only[go_sem,seval,xi9 hx,hsl]))
   exact⟨i+1,by omega,by omega,⟨rfl,by rw[htk];simp[Av.get],rfl,trivial⟩⟩
  by_cases h4:x.toNat=10
  ·have e:jE x=[92,110]:=by have:=gG 10 h4;subst this;rfl
   rw[e]at htk
   repeat'(first|(simp(disch:=first|omega|(simp only[zL];omega))only[go_sem,seval,xi9 hx]))
   exact⟨i+1,by omega,by omega,⟨rfl,by rw[htk];simp[Av.get],rfl,trivial⟩⟩
  ·have e:jE x=[x]:=by
    have e1:=gF 92 h1;have e2:=gF 44 h2;have e3:=gF 59 h3;have e4:=gF 10 h4;unfold jE;rw[if_neg,if_neg e4];rintro(e|e|e)
    ·exact e1 e
    ·exact e2 e
    ·exact e3 e
   rw[e]at htk
   repeat'(first|(simp(disch:=first|omega|(simp only[zL];omega))only[go_sem,seval,xi9 hx,hsl]))
   exact⟨i+1,by omega,by omega,⟨rfl,by rw[htk];simp[Av.get],rfl,trivial⟩⟩
 ·have e:i=s.length:=by omega
  subst e;rw[List.take_length]
  repeat'(first|(simp(disch:=first|omega|(simp only[zL];omega))only[go_sem,seval]))
  exact⟨_,rfl,_,rfl,.refl _⟩
set_option maxRecDepth 8000 in
theorem mX(s:Bytes)(hs:s.length≤1000000):aa Tryz.prog 75 [.str s] (.ret (.str (cq s))):=by
 refine aa.of Tryz.func75 rfl (ab enters Tryz.func75 rfl) (by simp[Tryz.ntmps75]) ?_;show W Tryz.prog 51 0 none _ _ _;refine W.vc (by decide) ?_
 repeat'(first|(simp(disch:=first|omega|(simp only[zL];omega))only[go_sem,seval]))
 refine W.bh (X:=Nat×Bytes) (fun y=>[(4,.int .i64 (y.1:Int)),(3,.str y.2),(0,.str s)]) (fun _=>[]) (fun y=>y.1≤s.length∧y.2++cq (s.drop y.1)=cq s∧y.2.length≤y.1) (fun y=>s.length - y.1) (0,[]) ⟨Nat.zero_le _,rfl,Nat.zero_le _⟩ ⟨rfl,rfl,rfl,trivial⟩ rfl ?_;rintro⟨i,o⟩ ⟨l1,l2,l3⟩;simp only at l1 l2 l3 ⊢;refine .vc (by decide) ?_;by_cases h:i<s.length
 ·obtain⟨x,hx,hdrop⟩:=drop_at h
  have hsl:=slB hx;rw[hdrop]at l2;by_cases h1:x.toNat=92
  ·have e1:x=92:=gG 92 h1
   by_cases h2:i+1<s.length
   ·obtain⟨y,hy,hd1⟩:=drop_at h2
    have hsl1:=slB hy;rw[e1,hd1,mc]at l2;by_cases h3:y.toNat=110
    ·have e2:unn y=10:=by have:=gG 110 h3;subst this;rfl
     rw[e2]at l2
     repeat'(first|(simp(disch:=first|omega|(simp only[zL];omega))only[go_sem,seval,xi9 hx,xi9 hy]))
     exact⟨(i+2,o++[10]),⟨by simp only;omega,by simpa using l2,by simp;omega⟩,by simp only;omega,⟨rfl,rfl,rfl,trivial⟩⟩
    by_cases h4:y.toNat=78
    ·have e2:unn y=10:=by have:=gG 78 h4;subst this;rfl
     rw[e2]at l2
     repeat'(first|(simp(disch:=first|omega|(simp only[zL];omega))only[go_sem,seval,xi9 hx,xi9 hy]))
     exact⟨(i+2,o++[10]),⟨by simp only;omega,by simpa using l2,by simp;omega⟩,by simp only;omega,⟨rfl,rfl,rfl,trivial⟩⟩
    ·have e2:unn y=y:=by
      have e3:=gF 110 h3;have e4:=gF 78 h4;unfold unn;rw[if_neg];rintro(e|e)
      ·exact e3 e
      ·exact e4 e
     rw[e2]at l2
     repeat'(first|(simp(disch:=first|omega|(simp only[zL];omega))only[go_sem,seval,xi9 hx,xi9 hy,hsl1]))
     exact⟨(i+2,o++[y]),⟨by simp only;omega,by simpa using l2,by simp;omega⟩,by simp only;omega,⟨rfl,rfl,rfl,trivial⟩⟩
   ·have hd1:s.drop (i+1)=[]:=List.drop_of_length_le (by omega)
    rw[hd1,ra]at l2
    repeat'(first|(simp(disch:=first|omega|(simp only[zL];omega))only[go_sem,seval,xi9 hx,hsl]))
    exact⟨(i+1,o++[x]),⟨by simp only;omega,by simp[hd1,cq];exact l2,by simp;omega⟩,by simp only;omega,⟨rfl,rfl,rfl,trivial⟩⟩
  ·rw[py (gF 92 h1)]at l2
   repeat'(first|(simp(disch:=first|omega|(simp only[zL];omega))only[go_sem,seval,xi9 hx,hsl]))
   exact⟨(i+1,o++[x]),⟨by simp only;omega,by simpa using l2,by simp;omega⟩,by simp only;omega,⟨rfl,rfl,rfl,trivial⟩⟩
 ·have e:i=s.length:=by omega
  subst e;rw[List.drop_length,cq,List.append_nil]at l2
  repeat'(first|(simp(disch:=first|omega|(simp only[zL];omega))only[go_sem,seval]))
  rw[l2];exact⟨_,rfl,_,rfl,.refl _⟩
def mk(c:Bool):UInt8:=if c then 44 else 59
theorem pH(u:Bytes)(hs:u.length≤1000000){out:List Bytes}(ho:out.length≤1000001)(z:Bool)(k:Nat)(hz:z=false→out=[])(x:Bytes):aG Tryz.prog 25 25 (bJ 0 0 0 AV.str k z out) (.vsl 0 true [.str x]) (mem [] AV.str k 0 z out)=some (bJ 0 0 0 AV.str (if z then k+1 else k) true (out++[x]),mem [] AV.str (if z then k+1 else k) 0 true (out++[x])):=
 lT (wd:=0) (bytes:=16) Tryz.underlying25 ik AV.str (fun _=>rfl) (fun _=>rfl) (by decide) [] k z out (fun h=>.inl rfl) x true (by omega)
theorem sK{s:Bytes}{fr i:Nat}{x:UInt8}(h1:fr≤i)(h:s[i]? =some x):(s.drop fr).take (i+1 - fr)=(s.drop fr).take (i - fr)++[x]:=by
 rw[show i+1 - fr=(i - fr)+1 from by omega,List.take_add_one,List.getElem?_drop,show fr+(i - fr)=i from by omega,h];rfl
set_option maxRecDepth 8000 in
theorem BN(s:Bytes)(c:Bool)(hs:s.length≤1000000):aa Tryz.prog 123 [.str s,.bool c] (.ret (.vsl 0 false ((aY (mk c) s).map .str))):=by
 refine aa.of Tryz.func123 rfl (ab enters Tryz.func123 rfl) (by simp[Tryz.ntmps123]) ?_;show W Tryz.prog 55 0 none _ _ _;refine W.vc (by decide) ?_;have hb1:=kU;have hm92:mk c≠92:=by cases c<;>decide
 repeat'(first|(simp(disch:=first|omega|(simp only[zL];omega))only[go_sem,seval]))
 refine W.bh (X:=Nat×Nat×Bool×Nat×Bool×List Bytes) (fun x=>[(8,.int .i64 (x.1:Int)),(6,.int .i64 (x.2.1:Int)),(7,.bool x.2.2.1),(5,bJ 0 0 0 AV.str x.2.2.2.1 x.2.2.2.2.1 x.2.2.2.2.2),(0,.str s),(1,.bool c)]) (fun x=>mem [] AV.str x.2.2.2.1 0 x.2.2.2.2.1 x.2.2.2.2.2)
  (fun x=>x.1≤s.length∧x.2.1≤x.1∧x.2.2.2.2.2++aQ (mk c) x.2.2.1 ((s.drop x.2.1).take (x.1 - x.2.1)) (s.drop x.1)=aY (mk c) s∧(x.2.2.2.2.1=false→x.2.2.2.2.2=[])∧x.2.2.2.2.2.length≤x.1) (fun x=>s.length - x.1) (0,0,false,0,false,[]) ⟨Nat.zero_le _,Nat.le_refl _,rfl,fun _=>rfl,Nat.le_refl _⟩ ⟨rfl,rfl,rfl,rfl,rfl,rfl,trivial⟩ rfl ?_
 rintro⟨i,fr,t,k,z,out⟩ ⟨l1,l2,l3,l4,l5⟩;simp only at l1 l2 l3 l4 l5 ⊢;have hde:deN (bJ 0 0 0 AV.str k z out)=bJ 0 0 0 AV.str k z out:=eX _ _ _ _ _ _ _;refine .vc (by decide) ?_;by_cases h:i<s.length
 ·obtain⟨x,hx,hdrop⟩:=drop_at h
  have hcur:=sK l2 hx;rw[hdrop]at l3;cases t with
  |true=>
   rw[aQ]at l3
   repeat'(first|(simp(disch:=first|omega|(simp only[zL];omega))only[go_sem,seval]))
   exact⟨(i+1,fr,false,k,z,out),⟨by simp only;omega,by simp only;omega,by simp only;rw[hcur];exact l3,l4,by simp only;omega⟩,by simp only;omega,⟨rfl,rfl,rfl,rfl,rfl,rfl,trivial⟩,rfl⟩
  | false=>
   rw[aQ]at l3;by_cases h1:x.toNat=92
   ·rw[if_pos (gG 92 h1)]at l3
    repeat'(first|(simp(disch:=first|omega|(simp only[zL];omega))only[go_sem,seval,xi9 hx]))
    exact⟨(i+1,fr,true,k,z,out),⟨by simp only;omega,by simp only;omega,by simp only;rw[hcur];exact l3,l4,by simp only;omega⟩,by simp only;omega,⟨rfl,rfl,rfl,rfl,rfl,rfl,trivial⟩,rfl⟩
   rw[if_neg (gF 92 h1)]at l3;have hsl:bo Tryz.prog 9 (.str s) (some (.int .i64 (fr:Int))) (some (.int .i64 (i:Int))) none=some (.str ((s.drop fr).take (i - fr))):=by
    rw[ss9,jX _ _ _ _ l2 (by omega)];rfl
   have ha:=pH s hs (show out.length≤1000001 by omega) z k l4 ((s.drop fr).take (i - fr));have hit:x=mk c→∃y:Nat×Nat×Bool×Nat×Bool×List Bytes,(y.1≤s.length∧y.2.1≤y.1∧y.2.2.2.2.2++aQ (mk c) y.2.2.1 ((s.drop y.2.1).take (y.1 - y.2.1)) (s.drop y.1)=aY (mk c) s∧(y.2.2.2.2.1=false→y.2.2.2.2.2=[])∧y.2.2.2.2.2.length≤y.1)∧y=(i+1,i+1,false,(if z then k+1 else k),true,out++[(s.drop fr).take (i - fr)]):=by
    intro e;rw[if_pos e]at l3;exact⟨_,⟨by simp only;omega,Nat.le_refl _,by simp only[Nat.sub_self,List.take_zero];rw[←l3];simp,(fun h=>by cases h),by simp only[List.length_append,List.length_cons,List.length_nil];omega⟩,rfl⟩
   have miss:x≠mk c→∃y:Nat×Nat×Bool×Nat×Bool×List Bytes,(y.1≤s.length∧y.2.1≤y.1∧y.2.2.2.2.2++aQ (mk c) y.2.2.1 ((s.drop y.2.1).take (y.1 - y.2.1)) (s.drop y.1)=aY (mk c) s∧(y.2.2.2.2.1=false→y.2.2.2.2.2=[])∧y.2.2.2.2.2.length≤y.1)∧y=(i+1,fr,false,k,z,out):=by
    intro e;rw[if_neg e]at l3;exact⟨_,⟨by simp only;omega,by simp only;omega,by simp only;rw[hcur];exact l3,l4,by simp only;omega⟩,rfl⟩
   cases c with
   | true=>
    by_cases h2:x.toNat=44
    ·obtain⟨y,hy,e⟩:=hit (gG 44 h2)
     subst e
     repeat'(first|(simp(disch:=first|omega|(simp only[zL];omega))only[go_sem,seval,xi9 hx,hsl,hb1,ha,hde]))
     exact⟨_,hy,by simp only;omega,⟨rfl,rfl,rfl,rfl,rfl,rfl,trivial⟩,rfl⟩
    ·obtain⟨y,hy,e⟩:=miss (gF 44 h2)
     subst e
     repeat'(first|(simp(disch:=first|omega|(simp only[zL];omega))only[go_sem,seval,xi9 hx]))
     exact⟨_,hy,by simp only;omega,⟨rfl,rfl,rfl,rfl,rfl,rfl,trivial⟩,rfl⟩
   | false=>
    by_cases h2:x.toNat=59
    ·obtain⟨y,hy,e⟩:=hit (gG 59 h2)
     subst e
     repeat'(first|(simp(disch:=first|omega|(simp only[zL];omega))only[go_sem,seval,xi9 hx,hsl,hb1,ha,hde]))
     exact⟨_,hy,by simp only;omega,⟨rfl,rfl,rfl,rfl,rfl,rfl,trivial⟩,rfl⟩
    ·obtain⟨y,hy,e⟩:=miss (gF 59 h2)
     subst e
     repeat'(first|(simp(disch:=first|omega|(simp only[zL];omega))only[go_sem,seval,xi9 hx]))
     exact⟨_,hy,by simp only;omega,⟨rfl,rfl,rfl,rfl,rfl,rfl,trivial⟩,rfl⟩
 ·have e:i=s.length:=by omega
  subst e;rw[List.drop_length,List.take_of_length_le (by simp)]at l3;have l3:out++[s.drop fr]=aY (mk c) s:=by
   cases t<;>simpa[aQ]using l3
  have hsl:bo Tryz.prog 9 (.str s) (some (.int .i64 (fr:Int))) none none=some (.str (s.drop fr)):=by
   rw[ss9,cX _ _ (by omega)];simp only[Option.map_some,gV]
  have ha:=pH s hs (show out.length≤1000001 by omega) z k l4 (s.drop fr)
  repeat'(first|(simp(disch:=first|omega|(simp only[zL];omega))only[go_sem,seval,hsl,hb1,ha,hde]))
  obtain⟨w,hz,hw⟩:=lR (B:=[]) (f:=AV.str) (w0:=0) (k:=if z then k+1 else k) (z:=true) (L:=out++[s.drop fr]) (n:=19) (M:=mem [] AV.str (if z then k+1 else k) 0 true (out++[s.drop fr])) (fun _=>gU) (aF _) (eo _);rw[←l3];exact nQ 4 rfl rfl rfl hz (by rcases hw with rfl|rfl<;>first|exact .exact _ _ _|exact .refl _)
set_option maxRecDepth 8000 in
theorem Hm(s:Bytes)(hs:s.length≤1000000):aa Tryz.prog 71 [.str s] (.ret (.str (cq s))):=by
 refine aa.of Tryz.func71 rfl (ab enters Tryz.func71 rfl) (by simp[Tryz.ntmps71]) ?_;show W Tryz.prog 41 0 none _ _ _;refine W.vc (by decide) ?_
 repeat'(first|(simp(disch:=first|omega|(simp only[zL];omega))only[go_sem,seval]))
 refine W.bh (X:=Nat×Nat×Bool×Bytes) (fun x=>[(4,.int .i64 (x.1:Int)),(3,byV x.2.1 x.2.2.1 x.2.2.2),(0,.str s)]) (fun x=>byM x.2.1 x.2.2.1 x.2.2.2)
  (fun x=>x.1≤s.length∧x.2.2.2++cq (s.drop x.1)=cq s∧(x.2.2.1=false→x.2.2.2=[])∧x.2.2.2.length≤x.1) (fun x=>s.length - x.1) (0,0,false,[]) ⟨Nat.zero_le _,rfl,fun _=>rfl,Nat.le_refl _⟩ (by simp[aB,Av.get,byV,bJ]) rfl ?_
 rintro⟨i,k,z,L⟩ ⟨l1,l2,l3,l4⟩;simp only at l1 l2 l3 l4 ⊢;refine .vc (by decide) ?_;have hde:deN (byV k z L)=byV k z L:=eX _ _ _ _ _ _ _;by_cases h:i<s.length
 ·obtain⟨x,hx,hdrop⟩:=drop_at h
  rw[hdrop]at l2;obtain⟨kx,hbx⟩:=mg k z L x true (by omega) l3;have hbs:=Hg x;by_cases h1:x.toNat=92
  ·have e1:x=92:=gG 92 h1
   by_cases h2:i+1<s.length
   ·obtain⟨y,hy,hd1⟩:=drop_at h2
    rw[e1,hd1,mc]at l2;obtain⟨k2,hb⟩:=mg k z L (unn y) true (by omega) l3;have hbu:=Hg (unn y);by_cases h3:y.toNat=110
    ·have e2:unn y=10:=by have:=gG 110 h3;subst this;rfl
     rw[e2]at l2 hb hbu;have hbu:aw Tryz.prog 108 1 [(0,.int .u8 10)]=some (.vsl 0 true [bp 10]):=hbu
     repeat'(first|(simp(disch:=first|omega|(simp only[zL];omega))only[go_sem,seval,xi9 hx,xi9 hy,hbu,hde,hb]))
     exact⟨(i+2,k2,true,L++[10]),⟨by simp only;omega,by simpa using l2,(fun h=>by cases h),by simp;omega⟩,by simp only;omega,⟨rfl,rfl,rfl,trivial⟩,rfl⟩
    by_cases h4:y.toNat=78
    ·have e2:unn y=10:=by have:=gG 78 h4;subst this;rfl
     rw[e2]at l2 hb hbu;have hbu:aw Tryz.prog 108 1 [(0,.int .u8 10)]=some (.vsl 0 true [bp 10]):=hbu
     repeat'(first|(simp(disch:=first|omega|(simp only[zL];omega))only[go_sem,seval,xi9 hx,xi9 hy,hbu,hde,hb]))
     exact⟨(i+2,k2,true,L++[10]),⟨by simp only;omega,by simpa using l2,(fun h=>by cases h),by simp;omega⟩,by simp only;omega,⟨rfl,rfl,rfl,trivial⟩,rfl⟩
    ·have e2:unn y=y:=by
      have e3:=gF 110 h3;have e4:=gF 78 h4;unfold unn;rw[if_neg];rintro(e|e)
      ·exact e3 e
      ·exact e4 e
     rw[e2]at l2 hb hbu
     repeat'(first|(simp(disch:=first|omega|(simp only[zL];omega))only[go_sem,seval,xi9 hx,xi9 hy,hbu,hde,hb]))
     exact⟨(i+2,k2,true,L++[y]),⟨by simp only;omega,by simpa using l2,(fun h=>by cases h),by simp;omega⟩,by simp only;omega,⟨rfl,rfl,rfl,trivial⟩,rfl⟩
   ·have hd1:s.drop (i+1)=[]:=List.drop_of_length_le (by omega)
    rw[hd1,ra]at l2
    repeat'(first|(simp(disch:=first|omega|(simp only[zL];omega))only[go_sem,seval,xi9 hx,hbs,hde,hbx]))
    exact⟨(i+1,kx,true,L++[x]),⟨by simp only;omega,by simp[hd1,cq];exact l2,(fun h=>by cases h),by simp;omega⟩,by simp only;omega,⟨rfl,rfl,rfl,trivial⟩,rfl⟩
  ·rw[py (gF 92 h1)]at l2
   repeat'(first|(simp(disch:=first|omega|(simp only[zL];omega))only[go_sem,seval,xi9 hx,hbs,hde,hbx]))
   exact⟨(i+1,kx,true,L++[x]),⟨by simp only;omega,by simpa using l2,(fun h=>by cases h),by simp;omega⟩,by simp only;omega,⟨rfl,rfl,rfl,trivial⟩,rfl⟩
 ·have e:i=s.length:=by omega
  subst e;rw[List.drop_length,cq,List.append_nil]at l2;have hcv:=BI k z L l3
  repeat'(first|(simp(disch:=first|omega|(simp only[zL];omega))only[go_sem,seval,hcv]))
  rw[←l2];exact⟨_,rfl,_,rfl,.refl _⟩
theorem eQ(m:UInt8)(b:Bool)(cur:Bytes):aQ m b cur []=[cur]:=by cases b<;>rfl
set_option maxRecDepth 8000 in
theorem BO(s:Bytes)(c:Bool)(hs:s.length≤1000000):bt Tryz.prog 119 [.str s,.bool c] [] (eu (aY (mk c) s)):=by
 refine bt.of0 Tryz.func119 rfl (ab enters Tryz.func119 rfl) (by simp[Tryz.ntmps119]) ?_;show W Tryz.prog 41 0 none _ _ _;have hb1:=kU;have hm92:mk c≠92:=by cases c<;>decide
 refine .seq (.vc (by decide) ?_)
 repeat'(first|(simp(disch:=first|omega|(simp only[zL];omega))only[go_sem,seval]))
 refine .seq (.vc (by decide) ?_)
 repeat'(first|(simp(disch:=first|omega|(simp only[zL];omega))only[go_sem,seval]))
 refine W.oP [(5,.int .u8 (mk c).toNat),(0,.str s)] [] (.vc (by decide) ?_) ?_
 ·cases c
  ·repeat'(first|(simp(disch:=first|omega|(simp only[zL];omega))only[go_sem,seval]))
   exact⟨rfl,rfl,trivial⟩
  ·repeat'(first|(simp(disch:=first|omega|(simp only[zL];omega))only[go_sem,seval]))
   exact⟨rfl,rfl,trivial⟩
 obtain⟨m,hm⟩:∃m,m=mk c:=⟨_,rfl⟩
 rw[←hm]at hm92 ⊢;refine .vc (by decide) ?_
 repeat'(first|(simp(disch:=first|omega|(simp only[zL];omega))only[go_sem,seval]))
 refine W.bh (X:=Nat×Nat×Nat×Bool×List Bytes) (fun x=>[(8,.int .i64 (x.1:Int)),(7,.int .i64 (x.2.1:Int)),(6,bJ 0 0 0 AV.str x.2.2.1 x.2.2.2.1 x.2.2.2.2),(0,.str s),(5,.int .u8 m.toNat)]) (fun x=>mem [] AV.str x.2.2.1 0 x.2.2.2.1 x.2.2.2.2)
  (fun x=>x.1≤s.length+1∧x.2.1≤x.1∧x.2.1≤s.length∧x.2.2.2.2++aQ m false ((s.drop x.2.1).take (x.1 - x.2.1)) (s.drop x.1)=aY m s∧(x.2.2.2.1=false→x.2.2.2.2=[])∧x.2.2.2.2.length≤x.2.1) (fun x=>s.length+1 - x.1) (0,0,0,false,[]) ⟨Nat.zero_le _,Nat.le_refl _,Nat.zero_le _,rfl,fun _=>rfl,Nat.le_refl _⟩ ⟨rfl,rfl,rfl,rfl,rfl,trivial⟩ rfl ?_
 rintro⟨i,fr,k,z,out⟩ ⟨l1,l2,l6,l3,l4,l5⟩;simp only at l1 l2 l3 l4 l5 l6 ⊢;have hde:deN (bJ 0 0 0 AV.str k z out)=bJ 0 0 0 AV.str k z out:=eX _ _ _ _ _ _ _;refine .vc (by decide) ?_;by_cases h:i<s.length
 ·obtain⟨x,hx,hdrop⟩:=drop_at h
  have hcur:=sK l2 hx;rw[hdrop]at l3;by_cases h1:x.toNat=92
  ·have e1:=gG 92 h1
   have hnext:out++aQ m false ((s.drop fr).take (i+2 - fr)) (s.drop (i+2))=aY m s:=by
    by_cases h2:i+1<s.length
    ·obtain⟨y,hy,hd1⟩:=drop_at h2
     rw[hd1,e1]at l3;have:aQ m false ((s.drop fr).take (i - fr)) (92::y::s.drop (i+1+1))=_:=kV m _ y _;rw[this]at l3;rw[sK (by omega) hy,hcur,e1];simpa using l3
    ·have hd1:s.drop (i+1)=[]:=List.drop_of_length_le (by omega)
     have hd2:s.drop (i+2)=[]:=List.drop_of_length_le (by omega);rw[hd1,aQ,if_pos e1,eQ]at l3;rw[hd2,eQ,←l3,←hcur,List.take_of_length_le (by simp;omega),List.take_of_length_le (by simp;omega)]
   repeat'(first|(simp(disch:=first|omega|(simp only[zL];omega))only[go_sem,seval,xi9 hx]))
   exact⟨(i+2,fr,k,z,out),⟨by simp only;omega,by simp only;omega,l6,hnext,l4,l5⟩,by simp only;omega,⟨rfl,rfl,rfl,rfl,rfl,trivial⟩,rfl⟩
  rw[aQ,if_neg (gF 92 h1)]at l3;have hsl:bo Tryz.prog 9 (.str s) (some (.int .i64 (fr:Int))) (some (.int .i64 (i:Int))) none=some (.str ((s.drop fr).take (i - fr))):=by
   rw[ss9,jX _ _ _ _ l2 (by omega)];rfl
  have ha:=pH s hs (show out.length≤1000001 by omega) z k l4 ((s.drop fr).take (i - fr));by_cases h2:x.toNat=m.toNat
  ·rw[if_pos (UInt8.toNat_inj.1 h2)]at l3
   repeat'(first|(simp(disch:=first|omega|(simp only[zL];omega))only[go_sem,seval,xi9 hx,hsl,hb1,ha,hde]))
   exact⟨(i+1,i+1,(if z then k+1 else k),true,out++[(s.drop fr).take (i - fr)]),⟨by simp only;omega,Nat.le_refl _,by simp only;omega,by simp only[Nat.sub_self,List.take_zero];rw[←l3];simp,(fun h=>by cases h),by simp only[List.length_append,List.length_cons,List.length_nil];omega⟩,by simp only;omega,⟨rfl,rfl,rfl,rfl,rfl,trivial⟩,rfl⟩
  ·rw[if_neg (fun e=>h2 (by rw[e]))]at l3
   repeat'(first|(simp(disch:=first|omega|(simp only[zL];omega))only[go_sem,seval,xi9 hx]))
   exact⟨(i+1,fr,k,z,out),⟨by simp only;omega,by simp only;omega,l6,by simp only;rw[hcur];exact l3,l4,l5⟩,by simp only;omega,⟨rfl,rfl,rfl,rfl,rfl,trivial⟩,rfl⟩
 ·have hd0:s.drop i=[]:=List.drop_of_length_le (by omega)
  rw[hd0,eQ,List.take_of_length_le (by simp;omega)]at l3;have hsl:bo Tryz.prog 9 (.str s) (some (.int .i64 (fr:Int))) none none=some (.str (s.drop fr)):=by
   rw[ss9,cX _ _ (by omega)];simp only[Option.map_some,gV]
  have ha:=pH s hs (show out.length≤1000001 by omega) z k l4 (s.drop fr)
  repeat'(first|(simp(disch:=first|omega|(simp only[zL];omega))only[go_sem,seval,hsl,hb1,ha,hde]))
  have hat:=gU (B:=[]) (f:=AV.str) (k:=if z then k+1 else k) (j:=0) (L:=out++[s.drop fr]);have hfl:aU AV.str (out++[s.drop fr])=(out++[s.drop fr]).map .str:=dT _;rw[hfl]at hat;rw[←l3];exact⟨_,rfl,.inr ⟨_,0,(out++[s.drop fr]).length,0,(out++[s.drop fr]).map .str,true,rfl,hat,aF _,.inr ⟨rfl,rfl⟩⟩⟩
theorem Hn(s:Bytes)(c:Bool)(hs:s.length≤1000000):aa Tryz.prog 119 [.str s,.bool c] (.ret (.vsl 0 false ((aY (mk c) s).map .str))):=
 (BO s c hs).pure (lW (aF _) (eo _))
/-! ### Fold -/
def nK:Nat→Bytes→Bytes
 |_,[]=>[]
 |i,x::t=>(if 75≤i∧(i - 75)%74=0 then [13,10,32]else [])++x::nK (i+1) t
def ml:Nat→Bytes→Bytes
 |_,[]=>[]
 |0,x::t=>[13,10,32]++x::ml 73 t
 |m+1,x::t=>x::ml m t
def room(i:Nat):Nat:=if i<75 then 75 - i else(74 - (i - 75)%74)%74
theorem yc:∀(s:Bytes) (i:Nat),nK i s=ml (room i) s
 | [],i=>by cases h:room i<;>rfl
 | x::t,i=>by
  rw[nK,yc t (i+1)];by_cases h:75≤i∧(i - 75)%74=0
  ·have h0:room i=0:=by unfold room;rw[if_neg (by omega)];omega
   have h1:room (i+1)=73:=by unfold room;rw[if_neg (by omega)];omega
   rw[if_pos h,h0,h1];rfl
  ·have h1:room i=room (i+1)+1:=by
    unfold room;by_cases h2:i<75
    ·rw[if_pos h2]
     by_cases h3:i+1<75
     ·rw[if_pos h3];omega
     ·rw[if_neg h3];have:i=74:=by omega
      subst this;rfl
    ·rw[if_neg h2,if_neg (by omega)];omega
   rw[if_neg h,h1];rfl
theorem kY:∀(m:Nat) (s:Bytes),ml m s=s.take m++ml 0 (s.drop m)
 |0,s=>by simp
 |m+1,[]=>by simp[ml]
 |m+1,x::t=>by simp only[ml,List.take_succ_cons,List.drop_succ_cons,List.cons_append];rw[kY m t]
theorem yd:∀(k m:Nat) (s:Bytes),s.length≤k→1≤m→jB k m s=ml m s
 |0,m,s,h,_=>by
  have:s=[]:=List.length_eq_zero_iff.1 (by omega);subst this;cases m<;>rfl
 | k+1,m,s,h,hm=>by
  rw[jB];by_cases h1:m<s.length
  ·rw[if_pos h1,yd k 74 _ (by simp;omega) (by omega),kY m s]
   congr 1;obtain⟨x,t,hx⟩:∃x t,s.drop m=x::t:=by
    cases hd:s.drop m with
    |nil=>have:=congrArg List.length hd;simp at this;omega
    |cons x t=>exact⟨x,t,rfl⟩
   rw[hx];rfl
  ·rw[if_neg h1,kY,List.take_of_length_le (by omega),List.drop_of_length_le (by omega)]
   simp[ml]
theorem Ho(s:Bytes):fold s=nK 0 s:=by
 rw[yc];exact yd _ _ _ (Nat.le_refl _) (by omega)
set_option maxRecDepth 8000 in
theorem Jx(s:Bytes)(hs:s.length≤200000):aa Tryz.prog 115 [.str s] (.ret (.str (fold s))):=by
 rw[Ho];refine aa.of Tryz.func115 rfl (ab enters Tryz.func115 rfl) (by simp[Tryz.ntmps115]) ?_;show W Tryz.prog 29 0 none _ _ _;refine W.vc (by decide) ?_
 repeat'(first|(simp(disch:=first|omega|(simp only[zL];omega))only[go_sem,seval]))
 refine W.bh (X:=Nat×Nat×Bool×Bytes) (fun x=>[(4,.int .i64 (x.1:Int)),(3,byV x.2.1 x.2.2.1 x.2.2.2),(0,.str s)]) (fun x=>byM x.2.1 x.2.2.1 x.2.2.2)
  (fun x=>x.1≤s.length∧x.2.2.2++nK x.1 (s.drop x.1)=nK 0 s∧(x.2.2.1=false→x.2.2.2=[])∧x.2.2.2.length≤4*x.1) (fun x=>s.length - x.1) (0,0,false,[]) ⟨Nat.zero_le _,rfl,fun _=>rfl,Nat.le_refl _⟩ (by simp[aB,Av.get,byV,bJ]) rfl ?_
 rintro⟨i,k,z,L⟩ ⟨l1,l2,l3,l4⟩;simp only at l1 l2 l3 l4 ⊢;refine .vc (by decide) ?_;have hde:deN (byV k z L)=byV k z L:=eX _ _ _ _ _ _ _;by_cases h:i<s.length
 ·obtain⟨x,hx,hdrop⟩:=drop_at h
  rw[hdrop,nK]at l2;have hbs:=Hg x;by_cases h1:75≤i
  ·have hrem:∀t,aW Tryz.prog .rem t (.int .i64 ((i:Int) - 75)) (.int .i64 74)=some (.int .i64 (((i - 75)%74:Nat):Int)):=by
    intro t;have e:((i:Int) - 75)=((i - 75:Nat):Int):=by omega
    simp only[aW,e];simp[Int.tmod]
   by_cases h2:(i - 75)%74=0
   ·rw[if_pos ⟨h1,h2⟩]at l2
    obtain⟨k1,ha⟩:=Eu k z L (by omega) l3;obtain⟨k2,hb⟩:=mg k1 true (L++[13,10,32]) x true (by simp;omega) (fun h=>by cases h);have hde1:deN (byV k1 true (L++[13,10,32]))=byV k1 true (L++[13,10,32]):=rfl
    repeat'(first|(simp(disch:=first|omega|(simp only[zL];omega))only[go_sem,seval,xi9 hx,hbs,hrem,hde,hde1,ha,hb]))
    refine⟨(i+1,k2,true,L++[13,10,32]++[x]),⟨by simp only;omega,?_,(fun h=>by cases h),?_⟩,by simp only;omega,⟨rfl,rfl,rfl,trivial⟩,rfl⟩
    ·rw[←l2];simp
    ·simp;omega
   ·rw[if_neg (by simp[h2])]at l2
    obtain⟨k2,hb⟩:=mg k z L x true (by omega) l3
    repeat'(first|(simp(disch:=first|omega|(simp only[zL];omega))only[go_sem,seval,xi9 hx,hbs,hrem,hde,hb]))
    refine⟨(i+1,k2,true,L++[x]),⟨by simp only;omega,?_,(fun h=>by cases h),?_⟩,by simp only;omega,⟨rfl,rfl,rfl,trivial⟩,rfl⟩
    ·rw[←l2];simp
    ·simp;omega
  ·rw[if_neg (by omega)]at l2
   obtain⟨k2,hb⟩:=mg k z L x true (by omega) l3
   repeat'(first|(simp(disch:=first|omega|(simp only[zL];omega))only[go_sem,seval,xi9 hx,hbs,hde,hb]))
   refine⟨(i+1,k2,true,L++[x]),⟨by simp only;omega,?_,(fun h=>by cases h),?_⟩,by simp only;omega,⟨rfl,rfl,rfl,trivial⟩,rfl⟩
   ·rw[←l2];simp
   ·simp;omega
 ·have e:i=s.length:=by omega
  subst e;rw[List.drop_length,nK,List.append_nil]at l2;have hcv:=BI k z L l3
  repeat'(first|(simp(disch:=first|omega|(simp only[zL];omega))only[go_sem,seval,hcv]))
  rw[←l2];exact⟨_,rfl,_,rfl,.refl _⟩
/-! ### told, Text -/
theorem sL{v:Bytes}{i:Nat}{x:UInt8}(h:v[i]? =some x):df (v.take (i+1))=(df (v.take i)||(x==58||x==59||x==44)):=by
 unfold df;rw[List.take_add_one,h,List.any_append];simp
set_option maxRecDepth 8000 in
theorem Jy(l:Ln)(hp:(told l).length≤200000):aa Tryz.prog 116 [aq l] (.ret (.str (told l))):=by
 obtain⟨g,n,x,ps,v⟩:=l;simp only[told,List.length_append,List.length_cons,List.length_nil]at hp;have hgl:g.length+n.length≤200000:=by
  have:(fU ⟨g,n,x,ps,v⟩).length≥g.length+n.length:=by unfold fU;simp only;split<;>simp_all[ck]
  omega
 have hps:ps.length≤200000:=by
  have:∀ps:List (Bytes×Bytes),ps.length≤(dA ps).length:=by
   intro ps;induction ps with
   |nil=>simp
   |cons a ps ih=>simp only[dA,List.map_cons,List.flatten_cons,List.length_append,List.length_cons,pq,List.length_nil]at ih ⊢;omega
  have:=this ps;omega
 refine aa.of Tryz.func116 rfl (ab enters Tryz.func116 rfl) (by simp[Tryz.ntmps116]) ?_;show W Tryz.prog 77 0 none _ _ _;simp only[aq];have hg:=wI g (by omega);have hn:=wI n (by omega);have:=ck g;have:=ck n;refine .seq (.vc (by decide) ?_)
 repeat'(first|(simp(disch:=first|omega|(simp only[zL];omega))only[go_sem,seval]))
 refine .seq (.vc (by decide) ?_)
 repeat'(first|(simp(disch:=first|omega|(simp only[zL];omega))only[go_sem,seval]))
 refine W.oP [(1,.ptr 0 0),(3,.str (if g=[]then []else dJ g++[46]))] [.cells [.str g,.str n,.vsl 3 x (ps.map aH),.str v] false] (.vc (by decide) ?_) ?_
 ·by_cases h0:g=[]
  ·have e0:(g==[])=true:=by simp[h0]
   repeat'(first|(simp(disch:=first|omega|(simp only[zL];omega))only[go_sem,seval,e0]))
   exact⟨rfl,by simp[Av.get,h0],trivial⟩
  ·have e0:(g==[])=false:=by simp[h0]
   repeat'(first|(simp(disch:=first|omega|(simp only[zL];omega))only[go_sem,seval,e0])|((with_reducible first|apply aj.pure|apply an.pure);(with_reducible exact hg);(first|rfl|simp only[go_sem])))
   exact⟨rfl,by simp[Av.get,h0],trivial⟩
 have hhd:(if g=[]then []else dJ g++[46])++dJ n=fU ⟨g,n,x,ps,v⟩:=by unfold fU;simp only;split<;>simp
 have hhl:(if g=[]then []else dJ g++[46]).length≤200001:=by split<;>simp[ck];omega
 obtain⟨hd0,hhd0⟩:∃hd0,hd0=(if g=[]then []else dJ g++[46]):=⟨_,rfl⟩
 rw[←hhd0]at hhd hhl ⊢;refine .vc (by decide) ?_
 repeat'(first|(simp(disch:=first|omega|(simp only[zL];omega))only[go_sem,seval])|((with_reducible first|apply aj.pure|apply an.pure);(with_reducible exact hn);(first|rfl|simp only[go_sem])))
 refine W.bh (X:=Nat) (fun i=>[(4,.int .i64 (i:Int)),(3,.str (fU ⟨g,n,x,ps,v⟩++dA (ps.take i))),(1,.ptr 0 0)]) (fun _=>[.cells [.str g,.str n,.vsl 3 x (ps.map aH),.str v] false]) (fun i=>i≤ps.length) (fun i=>ps.length - i) 0 (Nat.zero_le _) ⟨rfl,by simp[Av.get,dA,hhd],rfl,trivial⟩ rfl ?_;intro i hi;refine .vc (by decide) ?_;by_cases h:i<ps.length
 ·obtain⟨u,hu,hdrop⟩:=drop_at h
  have hia:∀H,ah Tryz.prog 44 (.vsl 3 x (ps.map aH)) (.int .i64 (i:Int)) H=some (.vptr [.str u.1,.str u.2]):=fun H=>zj (v:=aH u) (by simp[hu]) rfl H;have hle:=pr ps (i+1);rw[fV hu]at hle;simp only[List.length_append,pq,List.length_cons,List.length_nil,ck]at hle;have hql:=BB u.2;have hgu:=wI u.1 (by omega);have hgl:=ck u.1
  repeat'(first|(simp(disch:=first|omega|(simp only[zL];omega))only[go_sem,seval,hia]))
  refine W.bh (X:=Nat) (fun j=>[(7,.int .i64 (j:Int)),(6,.str (if df (u.2.take j)then [34]else [])),(5,.str u.2),(4,.int .i64 (i:Int)),(3,.str (fU ⟨g,n,x,ps,v⟩++dA (ps.take i))),(1,.ptr 0 0)]) (fun _=>[.cells [.str g,.str n,.vsl 3 x (ps.map aH),.str v] false]) (fun j=>j≤u.2.length) (fun j=>u.2.length - j) 0 (Nat.zero_le _) ⟨rfl,rfl,rfl,rfl,rfl,rfl,trivial⟩ rfl ?_;intro j hj;refine .vc (by decide) ?_;by_cases hjl:j<u.2.length
  ·obtain⟨y,hy,_⟩:=drop_at hjl
   have hqt:=sL hy;by_cases hq:y=58∨y=59∨y=44
   ·have hb:(y==58||y==59||y==44)=true:=by rcases hq with h|h|h<;>simp[h]
    rw[hb,Bool.or_true]at hqt;have hn:y.toNat=58∨y.toNat=59∨y.toNat=44:=by rcases hq with h|h|h<;>simp[h]
    rcases hn with hn|hn|hn
    all_goals
     repeat'(first|(simp(disch:=first|omega|(simp only[zL];omega))only[go_sem,seval,xi9 hy]))
     exact⟨j+1,by omega,by omega,⟨rfl,by rw[hqt];rfl,rfl,rfl,rfl,rfl,trivial⟩⟩
   ·have hne:y.toNat≠58∧y.toNat≠59∧y.toNat≠44:=by
     refine⟨fun h=>hq ?_,fun h=>hq ?_,fun h=>hq ?_⟩
     ·exact .inl (UInt8.toNat_inj.1 h)
     ·exact .inr (.inl (UInt8.toNat_inj.1 h))
     ·exact .inr (.inr (UInt8.toNat_inj.1 h))
    obtain⟨n1,n2,n3⟩:=hne;have hb:(y==58||y==59||y==44)=false:=by
     have:y≠58∧y≠59∧y≠44:=⟨fun h=>hq (.inl h),fun h=>hq (.inr (.inl h)),fun h=>hq (.inr (.inr h))⟩
     simp[this]
    rw[hb,Bool.or_false]at hqt
    repeat'(first|(simp(disch:=first|omega|(simp only[zL];omega))only[go_sem,seval,xi9 hy]))
    exact⟨j+1,by omega,by omega,⟨rfl,by rw[hqt];rfl,rfl,rfl,rfl,rfl,trivial⟩⟩
  ·have e:j=u.2.length:=by omega
   subst e;rw[List.take_length];have hqv:(if df u.2 then [34]else [])++u.2++(if df u.2 then [34]else [])=qv u.2:=by unfold qv;split<;>simp
   have hq2:(if df u.2 then [34]else([]:Bytes)).length≤1:=by split<;>simp
   obtain⟨qq,hqq⟩:∃qq:Bytes,qq=(if df u.2 then [34]else []):=⟨_,rfl⟩
   rw[←hqq]at hqv hq2 ⊢
   repeat'(first|(simp(disch:=first|omega|(simp only[zL];omega))only[go_sem,seval,hia])|((with_reducible first|apply aj.pure|apply an.pure);(with_reducible exact hgu);(first|rfl|simp only[go_sem])))
   refine⟨i+1,by omega,by omega,⟨rfl,?_,rfl,trivial⟩⟩;simp only[Av.get,Nat.reduceEqDiff,↓reduceIte];rw[fV hu,pq,←hqv];simp
 ·have e:i=ps.length:=by omega
  subst e;rw[List.take_length]
  repeat'(first|(simp(disch:=first|omega|(simp only[zL];omega))only[go_sem,seval]))
  refine⟨_,rfl,_,rfl,sx ?_⟩;simp[told]
def pI(ls:List Ln):Bytes:=(ls.map fun l=>fold (told l)++[13,10]).flatten
theorem Hp(c:Cd):laid c=gW++[13,10]++(cU++c.ver++[13,10])++pI c.ls++(zp++[13,10]):=by
 simp[laid,cH,fh,pI,Function.comp_def]
theorem rh{ls:List Ln}{i:Nat}{l:Ln}(h:ls[i]? =some l):pI (ls.take (i+1))=pI (ls.take i)++(fold (told l)++[13,10]):=by
 unfold pI;rw[List.take_add_one,h];simp
theorem sM:∀(ls:List Ln) (i:Nat),(pI (ls.take i)).length≤(pI ls).length
 | [],i=>by simp
 |x::l,0=>by simp[pI]
 |x::l,i+1=>by
  have:=sM l i;simp only[pI,List.take_succ_cons,List.map_cons,List.flatten_cons,List.length_append]at this ⊢;omega
set_option maxRecDepth 8000 in
theorem Jz(c:Cd)(hp:∀l∈c.ls,(told l).length≤200000)(hb:(laid c).length≤50000000)(hn:c.ls.length≤1000000):aa Tryz.prog 65 [aS c] (.ret (.str (laid c))):=by
 rw[Hp]at hb ⊢;obtain⟨ver,x,ls⟩:=c;simp only at hp hb hn ⊢;simp only[List.length_append,List.length_cons,List.length_nil]at hb;refine aa.of Tryz.func65 rfl (ab enters Tryz.func65 rfl) (by simp[Tryz.ntmps65]) ?_;show W Tryz.prog 28 0 none _ _ _;refine W.vc (by decide) ?_;simp only[aS]
 repeat'(first|(simp(disch:=first|omega|(simp only[zL];omega))only[go_sem,seval]))
 have e0:gW++[13,10]++(cU++ver++[13,10])=66::69::71::73::78::58::86::67::65::82::68::13::10::86::69::82::83::73::79::78::58::(ver++[13,10]):=by simp[gW,cU]
 rw[←e0];obtain⟨hd,hhd⟩:∃hd,hd=gW++[13,10]++(cU++ver++[13,10]):=⟨_,rfl⟩
 have hhl:hd.length≤50000000:=by rw[hhd];simp only[List.length_append,List.length_cons,List.length_nil];omega
 rw[←hhd];refine W.bh (X:=Nat) (fun i=>[(4,.int .i64 (i:Int)),(3,.str (hd++pI (ls.take i))),(1,.ptr 0 0)]) (fun _=>[.cells [.str ver,.vsl 5 x (ls.map aq)] false]) (fun i=>i≤ls.length) (fun i=>ls.length - i) 0 (Nat.zero_le _) ⟨rfl,by simp[Av.get,pI],rfl,trivial⟩ rfl ?_;intro i hi;refine .vc (by decide) ?_;have htl:=sM ls i;by_cases h:i<ls.length
 ·obtain⟨u,hu,hdrop⟩:=drop_at h
  have hia:∀H,ah Tryz.prog 22 (.vsl 5 x (ls.map aq)) (.int .i64 (i:Int)) H=some (.vptr [.str u.g,.str u.n,.vsl 3 u.x (u.ps.map aH),.str u.v]):=fun H=>jj (v:=aq u) (by simp[hu]) rfl H;have hmu:u∈ls:=List.mem_of_getElem? hu;have ht:=Jy u (hp u hmu);simp only[aq]at ht;have hf:=Jx (told u) (hp u hmu);have hle:=sM ls (i+1);rw[rh hu]at hle;simp only[List.length_append,List.length_cons,List.length_nil]at hle
  repeat'(first|(simp(disch:=first|omega|(simp only[zL];omega))only[go_sem,seval,hia])|((with_reducible first|apply aj.pure|apply an.pure);(with_reducible assumption);(first|rfl|simp only[go_sem,az])))
  refine⟨i+1,by omega,by omega,⟨rfl,?_,rfl,trivial⟩⟩;simp only[Av.get,Nat.reduceEqDiff,↓reduceIte];rw[rh hu];simp
 ·have e:i=ls.length:=by omega
  subst e;rw[List.take_length];have hend:zp++[13,10]=[69,78,68,58,86,67,65,82,68,13,10]:=rfl;rw[hend]
  repeat'(first|(simp(disch:=first|omega|(simp only[zL];omega))only[go_sem,seval]))
  exact⟨_,rfl,_,rfl,.refl _⟩
def qz(s:Bytes):Nat→List Bytes→Int
 |_,[]=>-1
 |i,o::l=>if s==o then(i:Int)else qz s (i+1) l
theorem ye (s :Bytes): ∀(l:List Bytes) (i:Nat),decide (qz s i l≥0)=decide (s∈l)
  | [],i=>by simp[qz]
  | o :: l, i =>by
    rw[qz];cases h:(s==o)with
    | true => have:s=o:=by simpa using h
              subst this;simp
    | false => have: ¬s=o:=by simpa using h
               simp only[Bool.false_eq_true,if_false];rw[ye s l (i+1)];simp[this]
set_option maxRecDepth 8000 in
theorem Hq(x:Bool)(l:List Bytes)(s:Bytes):aa Tryz.prog 141 [.vsl 0 x (l.map .str),.str s] (.ret (.int .i64 (qz s 0 l))):=by
 refine BJ fun hb=>?_;refine aa.of Tryz.func141 rfl (ab enters Tryz.func141 rfl) (by simp[Tryz.ntmps141]) ?_;show W Tryz.prog 19 0 none _ _ _;refine W.vc (by decide) ?_
 repeat'(first|(simp(disch:=first|omega|(simp only[zL];omega))only[go_sem,seval]))
 refine W.bh (X:=Nat) (fun i=>[(8,.int .i64 (i:Int)),(7,.int .i64 l.length),(0,.vsl 0 x (l.map .str)),(1,.str s)]) (fun _=>[]) (fun i=>i≤l.length∧qz s i (l.drop i)=qz s 0 l) (fun i=>l.length - i) 0 ⟨Nat.zero_le _,rfl⟩ ⟨rfl,rfl,rfl,rfl,trivial⟩ rfl ?_;rintro i ⟨hi,ht⟩;refine .vc (by decide) ?_;by_cases h:i<l.length
 ·obtain⟨u,hu,hd⟩:=drop_at h
  have h1:∀H,ah Tryz.prog 25 (.vsl 0 x (l.map .str)) (.int .i64 (i:Int)) H=some (.vptr [.str u]):=fun H=>dW (v:=.str u) (by simp[hu]) rfl H;rw[hd,qz]at ht;cases hc:(s==u)with
  |true=>
   rw[hc,if_pos rfl]at ht
   repeat'(first|(simp(disch:=first|omega|(simp only[zL];omega))only[go_sem,seval,h1,hc]))
   rw[←ht];exact⟨_,rfl,_,rfl,.refl _⟩
  |false=>
   rw[hc,if_neg (by simp)]at ht
   repeat'(first|(simp(disch:=first|omega|(simp only[zL];omega))only[go_sem,seval,h1,hc]))
   exact⟨i+1,⟨by omega,ht⟩,by omega,rfl,rfl,rfl,rfl,trivial⟩
 ·have e:i=l.length:=by omega
  subst e;rw[List.drop_length,qz]at ht
  repeat'(first|(simp(disch:=first|omega|(simp only[zL];omega))only[go_sem,seval]))
  rw[←ht];exact⟨_,rfl,_,rfl,.refl _⟩
theorem ri(x:Bool)(l:List Bytes)(s:Bytes):aa Tryz.prog 101 [.vsl 0 x (l.map .str),.str s] (.ret (.bool (decide (s∈l)))):=by
 have h:=Hq x l s;have hg:=ye s l 0;generalize qz s 0 l=p at*;rw[←hg];by_cases q:p≥0
 case pos=>
  rw[decide_eq_true q];refine aa.of Tryz.func101 rfl (ab enters Tryz.func101 rfl) (by simp[Tryz.ntmps101]) ?_;show W Tryz.prog 9 0 none _ _ _;refine W.vc (by decide) ?_
  repeat'(first|(simp(disch:=first|omega|(simp only[zL];omega))only[go_sem,seval])|((with_reducible first|apply aj.pure|apply an.pure);(with_reducible exact h);(first|rfl|simp only[go_sem,aF])))
  exact⟨_,rfl,_,rfl,.refl _⟩
 case neg=>
  rw[decide_eq_false q];refine aa.of Tryz.func101 rfl (ab enters Tryz.func101 rfl) (by simp[Tryz.ntmps101]) ?_;show W Tryz.prog 9 0 none _ _ _;refine W.vc (by decide) ?_
  repeat'(first|(simp(disch:=first|omega|(simp only[zL];omega))only[go_sem,seval])|((with_reducible first|apply aj.pure|apply an.pure);(with_reducible exact h);(first|rfl|simp only[go_sem,aF])))
  exact⟨_,rfl,_,rfl,.refl _⟩
set_option maxRecDepth 8000 in
theorem Hr(x:Bool)(l:List Bytes)(s:Bytes):aa Tryz.prog 80 [.vsl 0 x (l.map .str),.str s] (.ret (.bool (decide (s∈l)))):=by
  refine BJ fun hb=> ?_;obtain⟨b,hb0⟩: ∃b,b=decide (s∈l):=⟨_,rfl⟩
  rw[←hb0];refine aa.of Tryz.func80 rfl (ab enters Tryz.func80 rfl) (by simp[Tryz.ntmps80]) ?_;show W Tryz.prog 18 0 none _ _ _;refine W.vc (by decide) ?_
  repeat'(first|(simp(disch:=first|omega|(simp only[zL];omega))only[go_sem,seval]))
  refine W.bh (X:=Nat) (fun i=>[(5,.int .i64 (i:Int)),(0,.vsl 0 x (l.map .str)),(1,.str s)]) (fun _=>[]) (fun i=>i≤l.length∧s∉l.take i) (fun i=>l.length - i) 0 ⟨Nat.zero_le _,by simp⟩ ⟨rfl,rfl,rfl,trivial⟩ rfl ?_;rintro i ⟨hi,ht⟩;refine .vc (by decide) ?_;by_cases h:i<l.length
  · obtain⟨u,hu,hd⟩:=drop_at h
    have h1: ∀H,ah Tryz.prog 25 (.vsl 0 x (l.map .str)) (.int .i64 (i:Int)) H=some (.vptr [.str u]):=fun H=>dW (v:=.str u) (by simp[hu]) rfl H;cases hc:(u==s)with
    | true=>
      have e : b = true := by rw[hb0,decide_eq_true];have:u=s:=by simpa using hc
                              rw[←this];exact List.mem_of_getElem? hu
      rw[e]
      repeat'(first|(simp(disch:=first|omega|(simp only[zL];omega))only[go_sem,seval,h1,hc]))
      exact⟨_,rfl,_,rfl,.refl _⟩
    | false=>
      have hne:u≠s:=by simpa using hc
      repeat'(first|(simp(disch:=first|omega|(simp only[zL];omega))only[go_sem,seval,h1,hc]))
      refine⟨i+1,⟨by omega,?_⟩,by omega,rfl,rfl,rfl,trivial⟩;rw[List.take_add_one,hu];simp only[Option.toList_some,List.mem_append,List.mem_singleton,not_or];exact⟨ht,fun e=>hne e.symm⟩
  · have e:i=l.length:=by omega
    subst e;have e:b=false:=by rw[hb0];rw[List.take_length]at ht;exact decide_eq_false ht
    rw[e]
    repeat'(first|(simp(disch:=first|omega|(simp only[zL];omega))only[go_sem,seval]))
    exact⟨_,rfl,_,rfl,.refl _⟩
/-! ### Wanted -/
def hdB(l:List Bytes):Bytes:=l.headD []
theorem Hs(x:Bool)(l:List Bytes):aa Tryz.prog 103 [.vsl 0 x (l.map .str)] (.ret (.str (hdB l))):=by
 refine BJ fun hb=>?_;cases l with
 |nil=>
  refine aa.of Tryz.func103 rfl (ab enters Tryz.func103 rfl) (by simp[Tryz.ntmps103]) ?_;show W Tryz.prog 9 0 none _ _ _;refine W.vc (by decide) ?_
  repeat'(first|(simp(disch:=first|omega|(simp only[zL];omega))only[go_sem,seval]))
  exact⟨_,rfl,_,rfl,.refl _⟩
 |cons u l=>
  have h1:∀H,ah Tryz.prog 25 (.vsl 0 x ((u::l).map .str)) (.int .i64 0) H=some (.vptr [.str u]):=fun H=>dW (n:=0) (v:=.str u) rfl rfl H;have hln:∀H,aI Tryz.prog 25 (.vsl 0 x ((u::l).map .str)) H=some (.int .i64 ((l.length+1:Nat):Int)):=by intro H;simp[aI,Tryz.underlying25]
  obtain⟨V,hV⟩:∃V,V=AV.vsl 0 x ((u::l).map .str):=⟨_,rfl⟩
  have hde:deN V=V:=by rw[hV];rfl
  rw[←hV]at h1 hln ⊢;refine aa.of Tryz.func103 rfl (ab enters Tryz.func103 rfl) (by simp[Tryz.ntmps103]) ?_;show W Tryz.prog 9 0 none _ _ _;refine W.vc (by decide) ?_
  repeat'(first|(simp(disch:=first|omega|(simp only[zL];omega))only[go_sem,seval,h1,hln,hde]))
  exact⟨_,rfl,_,rfl,.refl _⟩
theorem uG(c:List Val)(hc:c.length=8)(f:Nat)(hf:f<8):aa Tryz.prog 78 [.agg (c.map av),.int .i64 (f:Int)] (.ret (.str (hdB (ar c f)))):=by
 obtain⟨v,hv⟩:∃v,c[f]? =some v:=⟨_,List.getElem?_eq_getElem (by omega)⟩
 have hia:∀H,ah Tryz.prog 27 (.ptr 0 0) (.int .i64 (f:Int)) H=some (.ptr 0 f):=eG 0 f hf;have hld:=kG [.cells (c.map av) false] 0 f c v false rfl hv;rw[eP c f v hv];obtain⟨x,l⟩:=v;simp only[av]at hld ⊢;refine aa.fit fun hfit=>?_;cases l with
 |nil=>
  have hln0:∀H,aI Tryz.prog 25 (.vsl 0 x (([]:List Bytes).map .str)) H=some (.int .i64 0):=by intro H;simp[aI,Tryz.underlying25]
  simp only[List.map_nil]at hld hln0;refine aa.of Tryz.func78 rfl (ab enters Tryz.func78 rfl) (by simp[Tryz.ntmps78]) ?_;show W Tryz.prog 15 0 none _ _ _;refine W.vc (by decide) ?_
  repeat'(first|(simp(disch:=first|omega|(simp only[zL];omega))only[go_sem,seval,hia,hld,hln0]))
  exact⟨_,rfl,_,rfl,.refl _⟩
 |cons u l=>
  have h1:∀H,ah Tryz.prog 25 (.vsl 0 x ((u::l).map .str)) (.int .i64 0) H=some (.vptr [.str u]):=fun H=>dW (n:=0) (v:=.str u) rfl rfl H;have hln:∀H,aI Tryz.prog 25 (.vsl 0 x ((u::l).map .str)) H=some (.int .i64 ((l.length+1:Nat):Int)):=by intro H;simp[aI,Tryz.underlying25]
  obtain⟨V,hV⟩:∃V,V=AV.vsl 0 x ((u::l).map .str):=⟨_,rfl⟩
  have hde:deN V=V:=by rw[hV];rfl
  rw[←hV]at h1 hln hld;refine aa.of Tryz.func78 rfl (ab enters Tryz.func78 rfl) (by simp[Tryz.ntmps78]) ?_;show W Tryz.prog 15 0 none _ _ _;refine W.vc (by decide) ?_
  repeat'(first|(simp(disch:=first|omega|(simp only[zL];omega))only[go_sem,seval,hia,hld,h1,hln,hde]))
  exact⟨_,rfl,_,rfl,.refl _⟩
/-! ### What a line says -/
theorem fq(l:Ln)(n:Bytes)(hl:l.n.length≤1000000):aa Tryz.prog 35 [aq l,.str n] (.ret (.bool (small l.n==n))):=by
 have hs:=jz l.n;obtain⟨g,m,x,ps,v⟩:=l;simp only[aq]at*;refine aa.of Tryz.func35 rfl (ab enters Tryz.func35 rfl) (by simp[Tryz.ntmps35]) ?_;show W Tryz.prog 10 0 none _ _ _;refine W.vc (by decide) ?_
 repeat'(first|(simp(disch:=first|omega|(simp only[zL];omega))only[go_sem,seval])|((with_reducible first|apply aj.pure|apply an.pure);(with_reducible exact hs);(first|rfl|simp only[go_sem])))
 exact⟨_,rfl,_,rfl,.refl _⟩
theorem BP(v:Bytes)(n:Nat)(hv:v.length≤1000000):aa Tryz.prog 76 [.str v,.int .i64 (n:Int)] (.ret (.str (jF v n))):=by
 have hp:=BN v false hv;have hpl:(aY (mk false) v).length≤1000001:=by have:=dX (mk false) false [] v;unfold aY;omega
 have e:mk false=59:=rfl;rw[e]at hp hpl;unfold jF;have hle:∀s∈aY 59 v,s.length≤1000000:=fun s hs=>by have:=iv 59 v false [] s hs;simp at this;omega
 generalize aY 59 v=P at*;by_cases h:n<P.length
 case pos=>
  obtain⟨u,hu,_⟩:=drop_at h;have h1:∀H,ah Tryz.prog 25 (.vsl 0 false (P.map .str)) (.int .i64 (n:Int)) H=some (.vptr [.str u]):=fun H=>dW (v:=.str u) (by simp[hu]) rfl H;have hun:=mX u (hle u (List.mem_of_getElem? hu));have e:atC P n=cq u:=by unfold atC;rw[hu]
  rw[e];refine aa.of Tryz.func76 rfl (ab enters Tryz.func76 rfl) (by simp[Tryz.ntmps76]) ?_;show W Tryz.prog 17 0 none _ _ _;refine W.vc (by decide) ?_
  repeat'(first|(simp(disch:=first|omega|(simp only[zL];omega))only[go_sem,seval,h1])|((with_reducible first|apply aj.pure|apply an.pure);(with_reducible assumption);(first|rfl|simp only[go_sem])))
  exact⟨_,rfl,_,rfl,.refl _⟩
 case neg=>
  have e:atC P n=[]:=by unfold atC;rw[List.getElem?_eq_none (by omega)]
  rw[e];refine aa.of Tryz.func76 rfl (ab enters Tryz.func76 rfl) (by simp[Tryz.ntmps76]) ?_;show W Tryz.prog 17 0 none _ _ _;refine W.vc (by decide) ?_
  repeat'(first|(simp(disch:=first|omega|(simp only[zL];omega))only[go_sem,seval])|((with_reducible first|apply aj.pure|apply an.pure);(with_reducible exact hp);(first|rfl|simp only[go_sem])))
  exact⟨_,rfl,_,rfl,.refl _⟩
def bG(m v:Bytes)(f:Nat):Bytes:=aK ⟨[],m,false,[],v⟩ f
theorem BQ(l:Ln)(f:Nat):aK l f=bG l.n l.v f:=rfl
set_option maxRecDepth 8000 in
theorem Ht(g m:Bytes)(x:Bool)(ps:List (Bytes×Bytes))(v:Bytes)(hm:m.length≤1000000)(hv:v.length≤1000000):aa Tryz.prog 36 [.agg [.str g,.str m,.vsl 3 x (ps.map aH),.str v],.int .i64 0] (.ret (.str (bG m v 0))):=by
 have hn:aa Tryz.prog 35 [.agg [.str g,.str m,.vsl 3 x (ps.map aH),.str v],.str nFN] (.ret (.bool (small m==nFN))):=fq ⟨g,m,x,ps,v⟩ nFN hm;have hu:=mX v hv;by_cases h:small m=nFN
 case pos=>
  rw[h,beq_self_eq_true]at hn;simp only[nFN]at hn h;have e:bG m v 0=cq v:=by simp[bG,aK,h,nFN,nN,ct,bg,bx,bm,cE]
  rw[e];refine aa.of Tryz.func36 rfl (ab enters Tryz.func36 rfl) (by simp[Tryz.ntmps36]) ?_;show W Tryz.prog 65 0 none _ _ _;refine W.vc (by decide) ?_
  repeat'(first|(simp(disch:=first|omega|(simp only[zL];omega))only[go_sem,seval])|((with_reducible first|apply aj.pure|apply an.pure);(with_reducible assumption);(first|rfl|simp only[go_sem,az])))
  exact⟨_,rfl,_,rfl,.refl _⟩
 case neg=>
  rw[beq_eq_false_iff_ne.2 h]at hn;simp only[nFN]at hn h;have e:bG m v 0=[]:=by simp[bG,aK,h,nFN,nN,ct,bg,bx,bm,cE]
  rw[e];refine aa.of Tryz.func36 rfl (ab enters Tryz.func36 rfl) (by simp[Tryz.ntmps36]) ?_;show W Tryz.prog 65 0 none _ _ _;refine W.vc (by decide) ?_
  repeat'(first|(simp(disch:=first|omega|(simp only[zL];omega))only[go_sem,seval])|((with_reducible first|apply aj.pure|apply an.pure);(with_reducible assumption);(first|rfl|simp only[go_sem,az])))
  exact⟨_,rfl,_,rfl,.refl _⟩
set_option maxRecDepth 8000 in
theorem Hu(g m:Bytes)(x:Bool)(ps:List (Bytes×Bytes))(v:Bytes)(hm:m.length≤1000000)(hv:v.length≤1000000):aa Tryz.prog 36 [.agg [.str g,.str m,.vsl 3 x (ps.map aH),.str v],.int .i64 1] (.ret (.str (bG m v 1))):=by
 have hn:aa Tryz.prog 35 [.agg [.str g,.str m,.vsl 3 x (ps.map aH),.str v],.str nN] (.ret (.bool (small m==nN))):=fq ⟨g,m,x,ps,v⟩ nN hm;have hu:aa Tryz.prog 76 [.str v,.int .i64 1] (.ret (.str (jF v 1))):=BP v 1 hv;by_cases h:small m=nN
 case pos=>
  rw[h,beq_self_eq_true]at hn;simp only[nN]at hn h;have e:bG m v 1=jF v 1:=by simp[bG,aK,h,nFN,nN,ct,bg,bx,bm,cE]
  rw[e];refine aa.of Tryz.func36 rfl (ab enters Tryz.func36 rfl) (by simp[Tryz.ntmps36]) ?_;show W Tryz.prog 65 0 none _ _ _;refine W.vc (by decide) ?_
  repeat'(first|(simp(disch:=first|omega|(simp only[zL];omega))only[go_sem,seval])|((with_reducible first|apply aj.pure|apply an.pure);(with_reducible assumption);(first|rfl|simp only[go_sem,az])))
  exact⟨_,rfl,_,rfl,.refl _⟩
 case neg=>
  rw[beq_eq_false_iff_ne.2 h]at hn;simp only[nN]at hn h;have e:bG m v 1=[]:=by simp[bG,aK,h,nFN,nN,ct,bg,bx,bm,cE]
  rw[e];refine aa.of Tryz.func36 rfl (ab enters Tryz.func36 rfl) (by simp[Tryz.ntmps36]) ?_;show W Tryz.prog 65 0 none _ _ _;refine W.vc (by decide) ?_
  repeat'(first|(simp(disch:=first|omega|(simp only[zL];omega))only[go_sem,seval])|((with_reducible first|apply aj.pure|apply an.pure);(with_reducible assumption);(first|rfl|simp only[go_sem,az])))
  exact⟨_,rfl,_,rfl,.refl _⟩
set_option maxRecDepth 8000 in
theorem Hv(g m:Bytes)(x:Bool)(ps:List (Bytes×Bytes))(v:Bytes)(hm:m.length≤1000000)(hv:v.length≤1000000):aa Tryz.prog 36 [.agg [.str g,.str m,.vsl 3 x (ps.map aH),.str v],.int .i64 2] (.ret (.str (bG m v 2))):=by
 have hn:aa Tryz.prog 35 [.agg [.str g,.str m,.vsl 3 x (ps.map aH),.str v],.str nN] (.ret (.bool (small m==nN))):=fq ⟨g,m,x,ps,v⟩ nN hm;have hu:aa Tryz.prog 76 [.str v,.int .i64 0] (.ret (.str (jF v 0))):=BP v 0 hv;by_cases h:small m=nN
 case pos=>
  rw[h,beq_self_eq_true]at hn;simp only[nN]at hn h;have e:bG m v 2=jF v 0:=by simp[bG,aK,h,nFN,nN,ct,bg,bx,bm,cE]
  rw[e];refine aa.of Tryz.func36 rfl (ab enters Tryz.func36 rfl) (by simp[Tryz.ntmps36]) ?_;show W Tryz.prog 65 0 none _ _ _;refine W.vc (by decide) ?_
  repeat'(first|(simp(disch:=first|omega|(simp only[zL];omega))only[go_sem,seval])|((with_reducible first|apply aj.pure|apply an.pure);(with_reducible assumption);(first|rfl|simp only[go_sem,az])))
  exact⟨_,rfl,_,rfl,.refl _⟩
 case neg=>
  rw[beq_eq_false_iff_ne.2 h]at hn;simp only[nN]at hn h;have e:bG m v 2=[]:=by simp[bG,aK,h,nFN,nN,ct,bg,bx,bm,cE]
  rw[e];refine aa.of Tryz.func36 rfl (ab enters Tryz.func36 rfl) (by simp[Tryz.ntmps36]) ?_;show W Tryz.prog 65 0 none _ _ _;refine W.vc (by decide) ?_
  repeat'(first|(simp(disch:=first|omega|(simp only[zL];omega))only[go_sem,seval])|((with_reducible first|apply aj.pure|apply an.pure);(with_reducible assumption);(first|rfl|simp only[go_sem,az])))
  exact⟨_,rfl,_,rfl,.refl _⟩
set_option maxRecDepth 8000 in
theorem Hw(g m:Bytes)(x:Bool)(ps:List (Bytes×Bytes))(v:Bytes)(hm:m.length≤1000000)(hv:v.length≤1000000):aa Tryz.prog 36 [.agg [.str g,.str m,.vsl 3 x (ps.map aH),.str v],.int .i64 3] (.ret (.str (bG m v 3))):=by
 have hn:aa Tryz.prog 35 [.agg [.str g,.str m,.vsl 3 x (ps.map aH),.str v],.str ct] (.ret (.bool (small m==ct))):=fq ⟨g,m,x,ps,v⟩ ct hm;have hu:aa Tryz.prog 76 [.str v,.int .i64 0] (.ret (.str (jF v 0))):=BP v 0 hv;by_cases h:small m=ct
 case pos=>
  rw[h,beq_self_eq_true]at hn;simp only[ct]at hn h;have e:bG m v 3=jF v 0:=by simp[bG,aK,h,nFN,nN,ct,bg,bx,bm,cE]
  rw[e];refine aa.of Tryz.func36 rfl (ab enters Tryz.func36 rfl) (by simp[Tryz.ntmps36]) ?_;show W Tryz.prog 65 0 none _ _ _;refine W.vc (by decide) ?_
  repeat'(first|(simp(disch:=first|omega|(simp only[zL];omega))only[go_sem,seval])|((with_reducible first|apply aj.pure|apply an.pure);(with_reducible assumption);(first|rfl|simp only[go_sem,az])))
  exact⟨_,rfl,_,rfl,.refl _⟩
 case neg=>
  rw[beq_eq_false_iff_ne.2 h]at hn;simp only[ct]at hn h;have e:bG m v 3=[]:=by simp[bG,aK,h,nFN,nN,ct,bg,bx,bm,cE]
  rw[e];refine aa.of Tryz.func36 rfl (ab enters Tryz.func36 rfl) (by simp[Tryz.ntmps36]) ?_;show W Tryz.prog 65 0 none _ _ _;refine W.vc (by decide) ?_
  repeat'(first|(simp(disch:=first|omega|(simp only[zL];omega))only[go_sem,seval])|((with_reducible first|apply aj.pure|apply an.pure);(with_reducible assumption);(first|rfl|simp only[go_sem,az])))
  exact⟨_,rfl,_,rfl,.refl _⟩
set_option maxRecDepth 8000 in
theorem Hy(g m:Bytes)(x:Bool)(ps:List (Bytes×Bytes))(v:Bytes)(hm:m.length≤1000000)(hv:v.length≤1000000):aa Tryz.prog 36 [.agg [.str g,.str m,.vsl 3 x (ps.map aH),.str v],.int .i64 4] (.ret (.str (bG m v 4))):=by
 have hn:aa Tryz.prog 35 [.agg [.str g,.str m,.vsl 3 x (ps.map aH),.str v],.str bg] (.ret (.bool (small m==bg))):=fq ⟨g,m,x,ps,v⟩ bg hm;have hu:=mX v hv;by_cases h:small m=bg
 case pos=>
  rw[h,beq_self_eq_true]at hn;simp only[bg]at hn h;have e:bG m v 4=cq v:=by simp[bG,aK,h,nFN,nN,ct,bg,bx,bm,cE]
  rw[e];refine aa.of Tryz.func36 rfl (ab enters Tryz.func36 rfl) (by simp[Tryz.ntmps36]) ?_;show W Tryz.prog 65 0 none _ _ _;refine W.vc (by decide) ?_
  repeat'(first|(simp(disch:=first|omega|(simp only[zL];omega))only[go_sem,seval])|((with_reducible first|apply aj.pure|apply an.pure);(with_reducible assumption);(first|rfl|simp only[go_sem,az])))
  exact⟨_,rfl,_,rfl,.refl _⟩
 case neg=>
  rw[beq_eq_false_iff_ne.2 h]at hn;simp only[bg]at hn h;have e:bG m v 4=[]:=by simp[bG,aK,h,nFN,nN,ct,bg,bx,bm,cE]
  rw[e];refine aa.of Tryz.func36 rfl (ab enters Tryz.func36 rfl) (by simp[Tryz.ntmps36]) ?_;show W Tryz.prog 65 0 none _ _ _;refine W.vc (by decide) ?_
  repeat'(first|(simp(disch:=first|omega|(simp only[zL];omega))only[go_sem,seval])|((with_reducible first|apply aj.pure|apply an.pure);(with_reducible assumption);(first|rfl|simp only[go_sem,az])))
  exact⟨_,rfl,_,rfl,.refl _⟩
set_option maxRecDepth 8000 in
theorem Hz(g m:Bytes)(x:Bool)(ps:List (Bytes×Bytes))(v:Bytes)(hm:m.length≤1000000)(hv:v.length≤1000000):aa Tryz.prog 36 [.agg [.str g,.str m,.vsl 3 x (ps.map aH),.str v],.int .i64 5] (.ret (.str (bG m v 5))):=by
 have hn:aa Tryz.prog 35 [.agg [.str g,.str m,.vsl 3 x (ps.map aH),.str v],.str bx] (.ret (.bool (small m==bx))):=fq ⟨g,m,x,ps,v⟩ bx hm;have hu:=mX v hv;by_cases h:small m=bx
 case pos=>
  rw[h,beq_self_eq_true]at hn;simp only[bx]at hn h;have e:bG m v 5=cq v:=by simp[bG,aK,h,nFN,nN,ct,bg,bx,bm,cE]
  rw[e];refine aa.of Tryz.func36 rfl (ab enters Tryz.func36 rfl) (by simp[Tryz.ntmps36]) ?_;show W Tryz.prog 65 0 none _ _ _;refine W.vc (by decide) ?_
  repeat'(first|(simp(disch:=first|omega|(simp only[zL];omega))only[go_sem,seval])|((with_reducible first|apply aj.pure|apply an.pure);(with_reducible assumption);(first|rfl|simp only[go_sem,az])))
  exact⟨_,rfl,_,rfl,.refl _⟩
 case neg=>
  rw[beq_eq_false_iff_ne.2 h]at hn;simp only[bx]at hn h;have e:bG m v 5=[]:=by simp[bG,aK,h,nFN,nN,ct,bg,bx,bm,cE]
  rw[e];refine aa.of Tryz.func36 rfl (ab enters Tryz.func36 rfl) (by simp[Tryz.ntmps36]) ?_;show W Tryz.prog 65 0 none _ _ _;refine W.vc (by decide) ?_
  repeat'(first|(simp(disch:=first|omega|(simp only[zL];omega))only[go_sem,seval])|((with_reducible first|apply aj.pure|apply an.pure);(with_reducible assumption);(first|rfl|simp only[go_sem,az])))
  exact⟨_,rfl,_,rfl,.refl _⟩
set_option maxRecDepth 8000 in
theorem HA(g m:Bytes)(x:Bool)(ps:List (Bytes×Bytes))(v:Bytes)(hm:m.length≤1000000)(hv:v.length≤1000000):aa Tryz.prog 36 [.agg [.str g,.str m,.vsl 3 x (ps.map aH),.str v],.int .i64 6] (.ret (.str (bG m v 6))):=by
 have hn:aa Tryz.prog 35 [.agg [.str g,.str m,.vsl 3 x (ps.map aH),.str v],.str bm] (.ret (.bool (small m==bm))):=fq ⟨g,m,x,ps,v⟩ bm hm;have hu:=mX v hv;by_cases h:small m=bm
 case pos=>
  rw[h,beq_self_eq_true]at hn;simp only[bm]at hn h;have e:bG m v 6=cq v:=by simp[bG,aK,h,nFN,nN,ct,bg,bx,bm,cE]
  rw[e];refine aa.of Tryz.func36 rfl (ab enters Tryz.func36 rfl) (by simp[Tryz.ntmps36]) ?_;show W Tryz.prog 65 0 none _ _ _;refine W.vc (by decide) ?_
  repeat'(first|(simp(disch:=first|omega|(simp only[zL];omega))only[go_sem,seval])|((with_reducible first|apply aj.pure|apply an.pure);(with_reducible assumption);(first|rfl|simp only[go_sem,az])))
  exact⟨_,rfl,_,rfl,.refl _⟩
 case neg=>
  rw[beq_eq_false_iff_ne.2 h]at hn;simp only[bm]at hn h;have e:bG m v 6=[]:=by simp[bG,aK,h,nFN,nN,ct,bg,bx,bm,cE]
  rw[e];refine aa.of Tryz.func36 rfl (ab enters Tryz.func36 rfl) (by simp[Tryz.ntmps36]) ?_;show W Tryz.prog 65 0 none _ _ _;refine W.vc (by decide) ?_
  repeat'(first|(simp(disch:=first|omega|(simp only[zL];omega))only[go_sem,seval])|((with_reducible first|apply aj.pure|apply an.pure);(with_reducible assumption);(first|rfl|simp only[go_sem,az])))
  exact⟨_,rfl,_,rfl,.refl _⟩
set_option maxRecDepth 8000 in
theorem HB(g m:Bytes)(x:Bool)(ps:List (Bytes×Bytes))(v:Bytes)(hm:m.length≤1000000)(hv:v.length≤1000000):aa Tryz.prog 36 [.agg [.str g,.str m,.vsl 3 x (ps.map aH),.str v],.int .i64 7] (.ret (.str (bG m v 7))):=by
 have hn:aa Tryz.prog 35 [.agg [.str g,.str m,.vsl 3 x (ps.map aH),.str v],.str cE] (.ret (.bool (small m==cE))):=fq ⟨g,m,x,ps,v⟩ cE hm;have hu:=mX v hv;by_cases h:small m=cE
 case pos=>
  rw[h,beq_self_eq_true]at hn;simp only[cE]at hn h;have e:bG m v 7=cq v:=by simp[bG,aK,h,nFN,nN,ct,bg,bx,bm,cE]
  rw[e];refine aa.of Tryz.func36 rfl (ab enters Tryz.func36 rfl) (by simp[Tryz.ntmps36]) ?_;show W Tryz.prog 65 0 none _ _ _;refine W.vc (by decide) ?_
  repeat'(first|(simp(disch:=first|omega|(simp only[zL];omega))only[go_sem,seval])|((with_reducible first|apply aj.pure|apply an.pure);(with_reducible assumption);(first|rfl|simp only[go_sem,az])))
  exact⟨_,rfl,_,rfl,.refl _⟩
 case neg=>
  rw[beq_eq_false_iff_ne.2 h]at hn;simp only[cE]at hn h;have e:bG m v 7=[]:=by simp[bG,aK,h,nFN,nN,ct,bg,bx,bm,cE]
  rw[e];refine aa.of Tryz.func36 rfl (ab enters Tryz.func36 rfl) (by simp[Tryz.ntmps36]) ?_;show W Tryz.prog 65 0 none _ _ _;refine W.vc (by decide) ?_
  repeat'(first|(simp(disch:=first|omega|(simp only[zL];omega))only[go_sem,seval])|((with_reducible first|apply aj.pure|apply an.pure);(with_reducible assumption);(first|rfl|simp only[go_sem,az])))
  exact⟨_,rfl,_,rfl,.refl _⟩
theorem yf(l:Ln)(f:Nat)(hf:f<8)(hm:l.n.length≤1000000)(hv:l.v.length≤1000000):aa Tryz.prog 36 [aq l,.int .i64 (f:Int)] (.ret (.str (aK l f))):=by
 rw[BQ];obtain⟨g,m,x,ps,v⟩:=l
 match f,hf with
 |0,_=>exact Ht g m x ps v hm hv
 |1,_=>exact Hu g m x ps v hm hv
 |2,_=>exact Hv g m x ps v hm hv
 |3,_=>exact Hw g m x ps v hm hv
 |4,_=>exact Hy g m x ps v hm hv
 |5,_=>exact Hz g m x ps v hm hv
 |6,_=>exact HA g m x ps v hm hv
 |7,_=>exact HB g m x ps v hm hv
theorem wM(l:List Bytes):(l.map AV.str).flatMap AV.cells=l.map .str:=dT l
theorem zx(l:List Bytes):(l.map AV.str).all AV.isC=true:=by
 rw[List.all_eq_true];intro v hv;obtain⟨x,_,rfl⟩:=List.mem_map.1 hv;rfl
theorem pJ(H:List OB)(y:AV)(l:List Bytes)(hn:ch 1 y H=some (l.length,l.map .str))(hl:l.length≤1000000)(h0:l≠ []):
    aG Tryz.prog 25 25 (.vsl 0 true []) y H=some (.sl H.length 0 l.length 0,H++[.cells (l.map .str) true]):=by
  have h: ¬l.length=0:=by simpa using h0
  simp only[aG,apX,Tryz.underlying25,ik,hn,bW,esz,↓reduceIte,List.length_nil,Nat.zero_add,List.flatMap_nil,List.nil_append,h];rw[if_pos (by omega)]
theorem oh(H:List OB)(y:AV)(hn:ch 1 y H=some (0,[])):aG Tryz.prog 25 25 (.vsl 0 true []) y H=some (.vsl 0 true [],H):=by
 simp only[aG,apX,Tryz.underlying25,ik,hn,↓reduceIte]
theorem sN(H:List OB)(id:Nat)(a:List Bytes)(y:AV)(l:List Bytes)(hid:H[id]? =some (.cells (a.map .str) true))(hn:ch 1 y H=some (l.length,l.map .str))(hl:a.length+l.length≤1000000)(h0:l≠ []):
    aG Tryz.prog 25 25 (.sl id 0 a.length 0) y H=some (.sl H.length 0 (a.length+l.length) 0,H.set id .dead++[.cells ((a++l).map .str) true]):=by
  have h:0<l.length:=List.length_pos_iff.2 h0;simp only[aG,apX,Tryz.underlying25,ik,hn,hid,esz,↓reduceIte,zx,List.length_map,Nat.zero_add,Nat.mul_one];rw[if_pos ⟨trivial,trivial,by omega,Nat.le_refl _⟩,if_neg (by omega)];simp
theorem yg(H:List OB)(id:Nat)(a:List Bytes)(y:AV)(hid:H[id]? =some (.cells (a.map .str) true))(hn:ch 1 y H=some (0,[]))(hl:a.length≤1000000):
    aG Tryz.prog 25 25 (.sl id 0 a.length 0) y H=some (.sl id 0 a.length 0,H):=by
  simp only[aG,apX,Tryz.underlying25,ik,hn,hid,esz,↓reduceIte,List.length_map,Nat.zero_add,Nat.mul_one,Nat.add_zero,cm,List.all_nil];rw[if_pos ⟨trivial,trivial,by omega,Nat.le_refl _⟩,if_pos (Nat.le_refl _)];congr 2;obtain⟨hlt,hv⟩:=List.getElem?_eq_some_iff.1 hid;rw[←hv];exact List.set_getElem_self hlt
theorem oi(H:List OB)(id off n:Nat)(l:List Bytes)(o:Bool)(hid:H[id]? =some (.cells (l.map .str) o))(h:off+n≤l.length):ch 1 (.sl id off n 0) H=some (((l.drop off).take n).length,((l.drop off).take n).map .str):=by
 simp only[ch,bW,hid,esz,↓reduceIte,Nat.mul_one,List.length_map];rw[if_pos ⟨trivial,h⟩];simp[List.map_drop,List.map_take];omega
theorem fX(H:List OB)(x:Bool)(l:List Bytes):ch 1 (.vsl 0 x (l.map .str)) H=some (l.length,l.map .str):=by
 simp only[ch,bW,esz,↓reduceIte,List.length_map,wM]
theorem Ey{m i:Nat}{H:List OB}{b:OB}(h:H[i]? =some b)(hb:b.hlt m=true):cd m H (List.replicate i .dead++[b]):=by
 have hi:=(List.getElem?_eq_some_iff.1 h).1;obtain⟨u,hu,hd⟩:=drop_at hi;rw[h]at hu;cases hu;have e:H=H.take i++b::H.drop (i+1):=by rw[←hd,List.take_append_drop]
 rw[e];exact jZ (by simp;omega) (oY (j:=0) hb (Nat.zero_le _))
def jG(k:Nat)(z:Bool)(L:List Bytes):List OB:=mem [] AV.str k 0 z L
def qA(k:Nat)(z:Bool)(L:List Bytes):AV:=bJ 0 0 0 AV.str k z L
theorem yh(k:Nat)(L:List Bytes):(jG k true L)[k]? =some (.cells (L.map .str) true):=by
 have:=gU (B:=[]) (f:=AV.str) (k:=k) (j:=0) (L:=L);rw[List.length_nil,Nat.zero_add]at this;rw[jG,this,aU,dT]
theorem uH{H:List OB}{id:Nat}{L:List Bytes}(h:H[id]? =some (.cells (L.map .str) true))(m:Nat):cd m H (jG id true L):=by
 have:=Ey (m:=m) h (by simpa[OB.hlt]using cA m L);have e:jG id true L=List.replicate id .dead++[.cells (L.map .str) true]:=by simp[jG,mem,aU,dT]
 rw[e];exact this
theorem pK(k:Nat)(L:List Bytes):qA k true L=.sl k 0 L.length 0:=by simp[qA,bJ]
theorem wN(k:Nat):qA k false []=.vsl 0 true []:=rfl
theorem mn(k:Nat)(z:Bool)(L:List Bytes):(qA k z L).hlt (jG k z L).length=true:=by
 cases z
 ·simp[qA,bJ,AV.hlt,cA]
 ·simp[qA,bJ,AV.hlt,jG,dc]
theorem zy(k:Nat)(z:Bool)(L:List Bytes)(m:Nat):cd m (jG k z L) (jG k z L):=ee (by
 cases z
 ·simp only[jG,mem,Bool.false_eq_true,if_false,List.append_nil,List.nil_append];exact ue m k
 ·simp only[jG,mem,if_true,List.nil_append,List.all_append,ue,Bool.true_and,aU,dT]
  simp[OB.hlt,cA])
def iw(l:List Bytes)(i:Nat):List Bytes:=nS (l.take i)
theorem rj{l:List Bytes}{i:Nat}{s:Bytes}(h:l[i]? =some s):iw l (i+1)=iV s (iw l i):=by
 unfold iw nS;rw[List.take_add_one,h,List.foldl_append];rfl
theorem wO(l:List Bytes)(i:Nat):List.Pairwise (fun a b:Bytes=>a<b) (iw l i):=(Jq (l.take i) [] .nil).1
theorem uI(s:Bytes):∀l:List Bytes,(iV s l).length≤l.length+1
 | []=>by simp[iV]
 |o::t=>by
  have:=uI s t;rw[iV];split
  ·simp only[List.length_cons];omega
  ·split<;>simp
theorem uJ(l:List Bytes):∀i,(iw l i).length≤i
 |0=>by simp[iw,nS]
 | i+1=>by
  have ih:=uJ l i;cases h:l[i]? with
  |none=>
   have:iw l (i+1)=iw l i:=by unfold iw;rw[List.take_add_one,h];simp
   rw[this];omega
  |some s=>rw[rj h];have:=uI s (iw l i);omega
theorem Ez (k:Nat) (z:Bool) (O:List Bytes) (s:Bytes) (kk:Nat) (hk:kk≤O.length) (hz:z=true↔O≠ []) (hb:O.length≤100000):
    ∃ v1 v2 v3 v4 v5 H1 H2 H3 id,bo Tryz.prog 25 (qA k z O) none (some (.int .i64 (kk:Int))) none=some v1∧aG Tryz.prog 25 25 (.vsl 0 true []) (deN v1) (jG k z O)=some (v2,H1)∧deN v2=v2∧
      aG Tryz.prog 25 25 v2 (.vsl 0 true [.str s]) H1=some (v3,H2)∧deN v3=v3∧bo Tryz.prog 25 (qA k z O) (some (.int .i64 (kk:Int))) none none=some v4∧
      aG Tryz.prog 25 25 v3 (deN v4) H2=some (v5,H3)∧v5=.sl id 0 (O.take kk++s::O.drop kk).length 0∧H3[id]? =some (.cells ((O.take kk++s::O.drop kk).map .str) true):=by
  obtain⟨M,hM⟩: ∃M,M=jG k z O:=⟨_,rfl⟩
  rw[←hM];have hs1: ∀(H:List OB),ch 1 (.vsl 0 true [.str s]) H=some ([s].length,[s].map .str):=fun H=>fX H true [s];have hv0: ∀(H:List OB) (x:Bool),ch 1 (.vsl 0 x []) H=some (0,[]):=fun H x=>fX H x [];cases z with
  | false=>
    have hO:O=[]:=by
      rcases O with _|⟨a,t⟩
      · rfl
      · exact absurd (hz.2 (by simp)) (by simp)
    subst hO;have hkk:kk=0:=by simpa using hk
    subst hkk;have e1:=pJ M (.vsl 0 true [.str s]) [s] (hs1 M) (by simp) (by simp);have e2:=yg (M++[.cells ([s].map .str) true]) M.length [s] (.vsl 0 true []) (by simp) (hv0 _ true) (by simp);refine⟨.vsl 0 true [],.vsl 0 true [],_,.vsl 0 true [],_,M,_,_,M.length,?_,oh M _ (hv0 M true),rfl,e1,rfl,?_,e2,rfl,by simp⟩
    · rw[wN];simp[bo,Tryz.underlying25,tz9,ky,idx]
    · rw[wN];simp[bo,Tryz.underlying25,tz9,ky,idx]
  | true =>
    have hO:O≠ []:=hz.1 rfl;have hO1:0<O.length:=List.length_pos_iff.2 hO;have hMk:M[k]? =some (.cells (O.map .str) true):=by rw[hM];exact yh k O
    have hkM:k<M.length:=(List.getElem?_eq_some_iff.1 hMk).1;rw[pK];have hsl1:bo Tryz.prog 25 (.sl k 0 O.length 0) none (some (.int .i64 (kk:Int))) none=some (.sl k 0 kk 0):=by
      simp only[bo,Tryz.underlying25,tz9,nY .i64 kk hk,esz,↓reduceIte];simp
    have hdV: ∀a b c,deN (.sl a b c 0)=.sl a b c 0:=fun _ _ _=>rfl;by_cases h0:kk=0
    · subst h0
      have n1:ch 1 (.sl k 0 0 0) M=some (0,[]):=by have:=oi M k 0 0 O true hMk (by omega);simpa using this
      have e1:=pJ M (.vsl 0 true [.str s]) [s] (hs1 M) (by simp) (by simp);obtain⟨H2,hH2⟩: ∃H2,H2=M++[OB.cells ([s].map AV.str) true]:=⟨_,rfl⟩
      rw[←hH2]at e1;have g1:H2[k]? =some (.cells (O.map .str) true):=by rw[hH2];exact aV hMk
      have g2:H2[M.length]? =some (.cells ([s].map .str) true):=by rw[hH2];simp
      have n2:ch 1 (.sl k 0 O.length 0) H2=some (O.length,O.map .str):=by
        have:=oi H2 k 0 O.length O true g1 (by omega);rw[List.drop_zero,List.take_of_length_le (Nat.le_refl _)]at this;exact this
      have e2:=sN H2 M.length [s] (.sl k 0 O.length 0) O g2 n2 (by simp;omega) hO;have hsl2:bo Tryz.prog 25 (.sl k 0 O.length 0) (some (.int .i64 ((0:Nat):Int))) none none=some (.sl k 0 O.length 0):=by
        simp only[bo,Tryz.underlying25,tz9,cX .i64 0 (Nat.zero_le _),esz,↓reduceIte];simp
      refine⟨.sl k 0 0 0,.vsl 0 true [],_,.sl k 0 O.length 0,_,M,H2,_,H2.length,hsl1,oh M _ n1,rfl,e1,rfl,hsl2,e2,?_,?_⟩
      · simp;omega
      · simp
    · have hkk:(O.take kk).length=kk:=by simp;omega
      have htk:O.take kk≠ []:=by intro e;rw[e]at hkk;exact h0 hkk.symm
      have n1:ch 1 (.sl k 0 kk 0) M=some ((O.take kk).length,(O.take kk).map .str):=by have:=oi M k 0 kk O true hMk (by rw[Nat.zero_add];exact hk);rw[List.drop_zero]at this;exact this
      have e0:=pJ M (.sl k 0 kk 0) (O.take kk) n1 (by rw[hkk];omega) htk;obtain⟨H1,hH1⟩: ∃H1,H1=M++[OB.cells ((O.take kk).map AV.str) true]:=⟨_,rfl⟩
      rw[←hH1]at e0;have g0:H1[M.length]? =some (.cells ((O.take kk).map .str) true):=by rw[hH1];simp
      have e1:=sN H1 M.length (O.take kk) (.vsl 0 true [.str s]) [s] g0 (hs1 H1) (by simp;omega) (by simp);obtain⟨H2,hH2⟩: ∃H2,H2=H1.set M.length .dead++[OB.cells ((O.take kk++[s]).map AV.str) true]:=⟨_,rfl⟩
      rw[←hH2]at e1;have hl1:H1.length=M.length+1:=by rw[hH1];simp
      have g1:H2[k]? =some (.cells (O.map .str) true):=by
        rw[hH2];refine aV ?_;rw[List.getElem?_set_ne (by omega),hH1];exact aV hMk
      have g2:H2[H1.length]? =some (.cells ((O.take kk++[s]).map .str) true):=by
        rw[hH2,List.getElem?_append_right (by simp),List.length_set,Nat.sub_self];rfl
      have hl2:(O.take kk).length+[s].length=(O.take kk++[s]).length:=by simp
      rw[hl2]at e1;by_cases hkn:kk=O.length
      · have hd:O.drop kk=[]:=List.drop_of_length_le (by omega)
        have hsl2:bo Tryz.prog 25 (.sl k 0 O.length 0) (some (.int .i64 (kk:Int))) none none=some (.vsl 0 false []):=by
          simp only[bo,Tryz.underlying25,tz9,cX .i64 kk hk,esz,↓reduceIte];rw[if_neg (by omega)]
        have e2:=yg H2 H1.length (O.take kk++[s]) (.vsl 0 false []) g2 (hv0 H2 false) (by simp;omega);refine⟨.sl k 0 kk 0,_,_,.vsl 0 false [],_,H1,H2,_,H1.length,hsl1,e0,rfl,e1,rfl,hsl2,e2,?_,?_⟩
        · rw[hd]
        · rw[hd];exact g2
      · have hd0:O.drop kk≠ []:=by intro e;have:=congrArg List.length e;simp at this;omega
        have hsl2:bo Tryz.prog 25 (.sl k 0 O.length 0) (some (.int .i64 (kk:Int))) none none=some (.sl k kk (O.length - kk) 0):=by
          simp only[bo,Tryz.underlying25,tz9,cX .i64 kk hk,esz,↓reduceIte];rw[if_pos (by omega)];simp
        have n2:ch 1 (.sl k kk (O.length - kk) 0) H2=some ((O.drop kk).length,(O.drop kk).map .str):=by
          have:=oi H2 k kk (O.length - kk) O true g1 (by omega);rw[List.take_of_length_le (by simp)]at this;exact this
        have e2:=sN H2 H1.length (O.take kk++[s]) (.sl k kk (O.length - kk) 0) (O.drop kk) g2 n2 (by simp;omega) hd0;refine⟨.sl k 0 kk 0,_,_,.sl k kk (O.length - kk) 0,_,H1,H2,_,H2.length,hsl1,e0,rfl,e1,rfl,hsl2,e2,?_,?_⟩
        · simp;omega
        · rw[List.getElem?_append_right (by simp),List.length_set,Nat.sub_self];simp
def uK(f:Nat)(l:List Bytes):List Bytes:=if f<6 then l else nS l
theorem BR(l:List Bytes):iw l l.length=nS l:=by unfold iw;rw[List.take_length]
set_option maxRecDepth 8000 in
theorem BS(f:Nat)(hf:f<8)(x:Bool)(l:List Bytes)(hl:l.length≤100000):aa Tryz.prog 37 [.int .i64 (f:Int),.vsl 0 x (l.map .str)] (.ret (.vsl 0 false ((uK f l).map .str))):=by
 by_cases h6:f<6
 case pos=>
  have e:uK f l=l:=if_pos h6;rw[e];by_cases h0:l=[]
  case pos=>
   subst h0;have ha:=oh [] (.vsl 0 x []) (fX [] x []);simp only[List.map_nil];refine aa.of Tryz.func37 rfl (ab enters Tryz.func37 rfl) (by simp[Tryz.ntmps37]) ?_;show W Tryz.prog 65 0 none _ _ _;refine W.vc (by decide) ?_
   repeat'(first|(simp(disch:=first|omega|(simp only[zL];omega))only[go_sem,seval,ha]))
   exact wh 4 rfl rfl rfl rfl (.nil _ _ _)
  case neg=>
   have ha:=pJ [] (.vsl 0 x (l.map .str)) l (fX [] x l) (by omega) h0;refine aa.of Tryz.func37 rfl (ab enters Tryz.func37 rfl) (by simp[Tryz.ntmps37]) ?_;show W Tryz.prog 65 0 none _ _ _;refine W.vc (by decide) ?_
   repeat'(first|(simp(disch:=first|omega|(simp only[zL];omega))only[go_sem,seval,ha]))
   refine nQ 4 rfl rfl rfl (u:=.vsl 0 false (l.map .str)) ?_ (.refl _);have e:(l.map AV.str).take l.length=l.map .str:=List.take_of_length_le (by simp);have:=oO (k:=19) (off:=0) (len:=l.length) (H:=[]++[.cells (l.map .str) true]) (id:=0) (cs:=l.map .str) (opn:=true) rfl (by simp) (by rw[List.drop_zero,e];exact aF l) (by rw[List.drop_zero,e];exact eo l);rwa[List.drop_zero,e]at this
 case neg=>
 have e:uK f l=nS l:=if_neg h6;rw[e];refine aa.of Tryz.func37 rfl (ab enters Tryz.func37 rfl) (by simp[Tryz.ntmps37]) ?_;show W Tryz.prog 65 0 none _ _ _;refine W.vc (by decide) ?_
 repeat'(first|(simp(disch:=first|omega|(simp only[zL];omega))only[go_sem,seval]))
 refine W.xw (X:=Nat×Nat×Bool) (fun y=>[(6,.int .i64 (y.1:Int)),(5,qA y.2.1 y.2.2 (iw l y.1)),(1,.vsl 0 x (l.map .str))]) (fun y=>jG y.2.1 y.2.2 (iw l y.1))
  (fun y=>y.1≤l.length∧(y.2.2=true↔iw l y.1≠ [])) (fun y=>l.length - y.1) (0,0,false) (fun _=>Nat.zero_le _) rfl ⟨Nat.zero_le _,by simp[iw,nS]⟩ ?_ ?_ ?_ ?_
 ·simp only[cM,Av.get,Nat.reduceEqDiff,↓reduceIte,cz,gn,gq,and_self,true_and,and_true,List.length_map,List.length_nil]
  exact Le.refl _
 ·simp[eg,AV.hlt,cA,mn]
 ·simp[cd,jG,mem,iw,nS]
 rintro⟨i,k,z⟩ ⟨hi,hz⟩;simp only at hi hz ⊢;by_cases h:i<l.length
 case neg=>
  have e:i=l.length:=by omega
  subst e;rw[BR]at hz ⊢;refine .vc (by decide) ?_
  repeat'(first|(simp(disch:=first|omega|(simp only[zL];omega))only[go_sem,seval]))
  obtain⟨w,hz2,hw⟩:=lR (B:=[]) (f:=AV.str) (w0:=0) (k:=k) (z:=z) (L:=nS l) (n:=19) (M:=jG k z (nS l)) (fun hz=>by subst hz;exact gU) (aF _) (eo _);exact nQ 4 rfl rfl rfl hz2 (by rcases hw with rfl|rfl<;>first|exact .exact _ _ _|exact .refl _)
 obtain⟨s,hs,_⟩:=drop_at h;have his:∀H,ah Tryz.prog 25 (.vsl 0 x (l.map .str)) (.int .i64 (i:Int)) H=some (.vptr [.str s]):=fun H=>dW (v:=.str s) (by simp[hs]) rfl H;have hsucc:=rj hs;have hris:=wO l i;have hOl:=uJ l i;generalize iw l i=O at*;obtain⟨V,hV⟩:∃V,V=qA k z O:=⟨_,rfl⟩
 obtain⟨M,hM⟩:∃M,M=jG k z O:=⟨_,rfl⟩
 have hde:deN V=V:=by rw[hV];exact eX _ _ _ _ _ _ _
 have hzf:z=false→O=[]:=by
  intro h;subst h;rcases O with _|⟨a,t⟩
  ·rfl
  ·exact absurd (hz.2 (by simp)) (by simp)
 have hln:aI Tryz.prog 25 V M=some (.int .i64 (O.length:Int)):=by
  rw[hV];cases z
  ·rw[hzf rfl];simp[wN,aI,Tryz.underlying25]
  ·rw[pK];simp[aI,Tryz.underlying25]
 have hget:∀(kk:Nat) o,O[kk]? =some o→ah Tryz.prog 25 V (.int .i64 (kk:Int)) M=some (.ptr k kk)∧al Tryz.prog 9 (.ptr k kk) M=some (.str o):=by
  intro kk o ho;have hkl:=(List.getElem?_eq_some_iff.1 ho).1;cases z with
  |false=>rw[hzf rfl]at ho;simp at ho
  | true=>
   constructor
   ·rw[hV,pK];simp[ah,bL,Tryz.underlying25,tz9,hkl]
   ·have:=yh k O
    rw[←hM]at this;have ho2:(O.map AV.str)[kk]? =some (.str o):=by simp[ho]
    rw[ld9];simp only[ldC,this,ho2]
 rw[←hV,←hM];refine .seq (.vc (by decide) ?_)
 repeat'(first|(simp(disch:=first|omega|(simp only[zL];omega))only[go_sem,seval]))
 refine .seq (.block ?_);refine .seq (.vc (by decide) ?_)
 repeat'(first|(simp(disch:=first|omega|(simp only[zL];omega))only[go_sem,seval]))
 refine .seq (.block ?_);refine W.bh (X:=Nat) (fun kk=>[(7,.int .i64 (kk:Int)),(6,.int .i64 (i:Int)),(5,V),(1,.vsl 0 x (l.map .str))]) (fun _=>M) (fun kk=>kk≤O.length∧∀o∈O.take kk,o<s) (fun kk=>O.length - kk) 0 ⟨Nat.zero_le _,by simp⟩ ⟨rfl,rfl,rfl,rfl,trivial⟩ rfl ?_;rintro kk ⟨hk,hlt⟩;have hbs:=kU s;have last:(∀o,O[kk]? =some o→¬o<s∧o≠s)→iw l (i+1)=O.take kk++s::O.drop kk:=by
  intro h;rw[hsucc,sH s O hris kk hk hlt (fun o ho=>(h o ho).1),if_neg];intro e;exact(h s e).2 rfl
 obtain⟨v1,v2,v3,v4,v5,H1,H2,H3,id,a1,a2,a3,a4,a5,a6,a7,a8,a9⟩:=Ez k z O s kk hk hz (by omega);rw[←hM]at a2;rw[←hV]at a1 a6;by_cases hkn:kk<O.length
 ·obtain⟨o,ho,_⟩:=drop_at hkn
  obtain⟨g1,g2⟩:=hget kk o ho;cases hc:Op.bytesLess o s with
  |true=>
   have hos:o<s:=by rw[oe]at hc;simpa using hc
   refine .vc (by decide) ?_
   repeat'(first|(simp(disch:=first|omega|(simp only[zL];omega))only[go_sem,seval]))
   refine W.aO [] [false,false,false,false,false,false,false,false,false,false,false,false,false,false,false] [] mixed (by kernel_rfl) (by kernel_rfl) (by kernel_rfl) ?_
   repeat'(first|(simp(disch:=first|omega|(simp only[zL];omega))only[go_sem,seval,hln,hde,g1,g2,his,BG,hc]))
   refine⟨kk+1,⟨by omega,?_⟩,by omega,rfl,rfl,rfl,rfl,trivial⟩;intro p hp;rw[List.take_add_one,ho]at hp;rcases List.mem_append.1 hp with h|h
   ·exact hlt p h
   ·simp at h;subst h;exact hos
  | false=>
   have hos:¬o<s:=by rw[oe]at hc;simpa using hc
   refine .vc (by decide) ?_
   repeat'(first|(simp(disch:=first|omega|(simp only[zL];omega))only[go_sem,seval]))
   refine W.aO [] [false,false,false,false,false,false,false,false,false,false,false,false,false,false,false] [] mixed (by kernel_rfl) (by kernel_rfl) (by kernel_rfl) ?_
   repeat'(first|(simp(disch:=first|omega|(simp only[zL];omega))only[go_sem,seval,hln,hde,g1,g2,his,BG,hc]))
   cases hq:(o==s)with
   | true=>
    have hos2:o=s:=by simpa using hq
    have e:iw l (i+1)=O:=by rw[hsucc,sH s O hris kk hk hlt (fun p hp=>by rw[ho]at hp;cases hp;exact hos),if_pos (by rw[ho,hos2])]
    refine .vc (by decide) ?_
    repeat'(first|(simp(disch:=first|omega|(simp only[zL];omega))only[go_sem,seval]))
    refine W.aO [] [false,false,false,false,false,false,false,false,false,false,false,false,false,false,false] [] mixed (by kernel_rfl) (by kernel_rfl) (by kernel_rfl) ?_
    repeat'(first|(simp(disch:=first|omega|(simp only[zL];omega))only[go_sem,seval,hln,hde,g1,g2,his,hq]))
    refine .vc (by decide) ?_
    repeat'(first|(simp(disch:=first|omega|(simp only[zL];omega))only[go_sem,seval]))
    refine⟨(i+1,k,z),⟨by simp only;omega,by simp only;rw[e];exact hz⟩,by simp only;omega,?_,?_,?_⟩
    ·simp only[e,←hV]
     simp only[cM,Av.get,Nat.reduceEqDiff,↓reduceIte,cz,gn,gq,and_self,true_and,and_true,List.length_map,List.length_nil]
    ·simp only[e];simp[eg,AV.hlt,cA,mn]
    ·simp only[e];rw[hM];exact zy _ _ _ _
   | false=>
    have hos2:o≠s:=by simpa using hq
    refine .vc (by decide) ?_
    repeat'(first|(simp(disch:=first|omega|(simp only[zL];omega))only[go_sem,seval]))
    refine W.aO [] [false,false,false,false,false,false,false,false,false,false,false,false,false,false,false] [] mixed (by kernel_rfl) (by kernel_rfl) (by kernel_rfl) ?_
    repeat'(first|(simp(disch:=first|omega|(simp only[zL];omega))only[go_sem,seval,hln,hde,g1,g2,his,hq]))
    refine W.aO [3,9,13] [false,false,false,true,false,false,false,false,false,true,false,false,false,true,false] [(6,0),(7,0)] mixed (by kernel_rfl) (by kernel_rfl) (by kernel_rfl) ?_
    repeat'(first|(simp(disch:=first|omega|(simp only[zL];omega))only[go_sem,seval,hde,a1,a2,a3,a4,a5,a6,a7,his,hbs]))
    refine .vc (by decide) ?_
    repeat'(first|(simp(disch:=first|omega|(simp only[zL];omega))only[go_sem,seval]))
    have e:=last (fun p hp=>by rw[ho]at hp;cases hp;exact⟨hos,hos2⟩);refine⟨(i+1,id,true),⟨by simp only;omega,by simp only;rw[e];simp⟩,by simp only;omega,?_,?_,?_⟩
    ·simp only[e,pK,a8]
     simp only[cM,Av.get,Nat.reduceEqDiff,↓reduceIte,cz,gn,gq,and_self,true_and,and_true,List.length_map,List.length_nil]
    ·simp only[e];simp[eg,AV.hlt,cA,mn]
    ·simp only[e];exact uH a9 _
 ·refine .vc (by decide) ?_
  repeat'(first|(simp(disch:=first|omega|(simp only[zL];omega))only[go_sem,seval]))
  refine W.aO [] [false,false,false,false,false,false,false,false,false,false,false,false,false,false,false] [] mixed (by kernel_rfl) (by kernel_rfl) (by kernel_rfl) ?_
  repeat'(first|(simp(disch:=first|omega|(simp only[zL];omega))only[go_sem,seval,hln,hde,his]))
  refine .vc (by decide) ?_
  repeat'(first|(simp(disch:=first|omega|(simp only[zL];omega))only[go_sem,seval]))
  refine W.aO [] [false,false,false,false,false,false,false,false,false,false,false,false,false,false,false] [] mixed (by kernel_rfl) (by kernel_rfl) (by kernel_rfl) ?_
  repeat'(first|(simp(disch:=first|omega|(simp only[zL];omega))only[go_sem,seval,hln,hde,his]))
  refine W.aO [3,9,13] [false,false,false,true,false,false,false,false,false,true,false,false,false,true,false] [(6,0),(7,0)] mixed (by kernel_rfl) (by kernel_rfl) (by kernel_rfl) ?_
  repeat'(first|(simp(disch:=first|omega|(simp only[zL];omega))only[go_sem,seval,hde,a1,a2,a3,a4,a5,a6,a7,his,hbs]))
  refine .vc (by decide) ?_
  repeat'(first|(simp(disch:=first|omega|(simp only[zL];omega))only[go_sem,seval]))
  have e:=last (fun p hp=>by rw[List.getElem?_eq_none (by omega)]at hp;cases hp);refine⟨(i+1,id,true),⟨by simp only;omega,by simp only;rw[e];simp⟩,by simp only;omega,?_,?_,?_⟩
  ·simp only[e,pK,a8]
   simp only[cM,Av.get,Nat.reduceEqDiff,↓reduceIte,cz,gn,gq,and_self,true_and,and_true,List.length_map,List.length_nil]
  ·simp only[e];simp[eg,AV.hlt,cA,mn]
  ·simp only[e];exact uH a9 _
theorem EA(x:Bool)(l:List Bytes):aa Tryz.prog 34 [.vsl 0 x (l.map .str)] (.ret (.func (.func 74) [] [.vptr [.vsl 0 x (l.map .str)]])):=by
 refine aa.of Tryz.func34 rfl (ab enters Tryz.func34 rfl) (by simp[Tryz.ntmps34]) ?_;show W Tryz.prog 4 0 none _ _ _;refine W.vc (by decide) ?_
 repeat'(first|(simp(disch:=first|omega|(simp only[zL];omega))only[go_sem,seval]))
 exact nQ 2 rfl rfl rfl (wH (by simpa[AV.hf]using aF l)) (.refl _)
theorem EB (yid:Nat) (x:Bool) (l:List Bytes) (hL:l.length≤1000000) (H:List OB) (J:List Bytes→List OB→Prop) (hJ:J [] H)
    (hstep: ∀s b K,s.length<l.length→J s K→ ∃K',YFn Tryz.prog yid [.str b] K (.ret (.bool true)) K'∧J (s++[b]) K'):
    bt Tryz.prog 74 [.yld yid,.vptr [.vsl 0 x (l.map .str)]] H (fun out K=>out=.ret (.tup [])∧J l K):=by
  refine bt.ofX Tryz.func74 rfl (ab enters Tryz.func74 rfl) (by simp[Tryz.ntmps74]) ?_;show W Tryz.prog 16 _ none _ _ _;have hld: ∀K,al Tryz.prog 25 (.vptr [.vsl 0 x (l.map .str)]) K=some (.vsl 0 x (l.map .str)):=by intro K;simp[al,qx,AX,ldA]
  have hln: ∀K,aI Tryz.prog 25 (.vsl 0 x (l.map .str)) K=some (.int .i64 l.length):=by intro K;simp[aI,Tryz.underlying25]
  refine .vc (by decide) ?_
  repeat'(first|(simp(disch:=first|omega|(simp only[zL];omega))only[go_sem,seval,hld,hln]))
  refine W.loop (X:=Nat) (fun i a=>aB a.T [(0,.yld yid),(5,.vsl 0 x (l.map .str)),(6,.int .i64 l.length),(7,.int .i64 (i:Int))]∧J (l.take i) a.H∧a.D=[]∧i≤l.length) (fun i=>l.length - i) 0 ⟨⟨rfl,rfl,rfl,rfl,trivial⟩,hJ,rfl,Nat.zero_le _⟩ ?_;rintro i ⟨T,K,D⟩ ⟨h1,h2,rfl,h4⟩;simp only at h1 h2 h4;refine W.bQ _ h1 (.vc (by decide) ?_);by_cases h:i<l.length
  · obtain⟨b,hb,hdrop⟩:=drop_at h
    have htake:l.take (i+1)=l.take i++[b]:=by rw[List.take_add_one,hb];rfl
    have hbv:(l.map AV.str)[i]? =some (.str b):=by simp[hb]
    have hia: ∀K,ah Tryz.prog 25 (.vsl 0 x (l.map .str)) (.int .i64 (i:Int)) K=some (.vptr [.str b]):=by
      intro K;simp[ah,bL,Tryz.underlying25,tz9,hb,AV.cells]
    have hlv: ∀K,al Tryz.prog 9 (.vptr [.str b]) K=some (.str b):=by
      intro K;simp[al,tz9,tg9,ldA]
    obtain⟨K',hy,hJ'⟩:=hstep (l.take i) b K (by simp;omega) h2
    repeat'(first|(simp(disch:=first|omega|(simp only[zL];omega))only[go_sem,seval,hia,hlv])|(guard_target=~ aj _ _ _ _ _ _ _;refine aj.sh hy ?_))
    exact⟨i+1,⟨⟨rfl,rfl,rfl,rfl,trivial⟩,by rw[htake];exact hJ',h⟩,by omega⟩
  · have e:i=l.length:=by omega
    subst e;rw[List.take_length]at h2
    repeat'(first|(simp(disch:=first|omega|(simp only[zL];omega))only[go_sem,seval]))
    exact⟨_,_,⟨rfl,h2⟩,_,rfl,rfl,_,rfl,rfl⟩
theorem fY(l:List Bytes):aU AV.str l=l.map .str:=dT l
set_option maxRecDepth 100000 in
theorem Lw(x:Bool)(l:List Bytes)(hL:l.length≤1000000):
    bt Tryz.prog 120 [.vsl 0 true [],.func (.func 74) [] [.vptr [.vsl 0 x (l.map .str)]]] [] (eu l):=by
  generalize hg:AV.func (.func 74) [] [.vptr [.vsl 0 x (l.map .str)]]=g;refine bt.of0 Tryz.func120 rfl (ab enters Tryz.func120 rfl) (by simp[Tryz.ntmps120]) ?_;show W Tryz.prog 13 _ none _ _ _;refine .vc (by decide) ?_
  repeat'(first|(simp(disch:=first|omega|(simp only[zL];omega))only[go_sem,seval]))
  have hstep:=EB 2 x l hL ([.cells [.vsl 0 true []] false]++[.dfr,.loop (tC g) lkC]) (fun s K=>jC g s K∧(s=[]→K[0]? =some (.cells [.vsl 0 true []] false))) ⟨⟨rfl,rfl,_,rfl,.inl ⟨rfl,0,rfl⟩,rfl,(by intro i _ h;cases h),rfl⟩,fun _=>rfl⟩ (fun s m K hs hJ=>by
    obtain⟨K',hy,hJ'⟩:=G9 g s m K (by omega) hJ.1
    exact⟨K',hy,hJ',fun h=>by simp at h⟩)
  refine W.iQ (gf:=74) (fs:=[]) (cs:=[.vptr [.vsl 0 x (l.map .str)]]) (by rw[hg];rfl) (ab enters Tryz.func74 rfl) hstep ?_;rintro out K ⟨rfl,⟨h1,h2,v,h0,hin,hvc,hne,hde⟩,hnil⟩;refine⟨_,_,_,rfl,h2,by simp[lkC],?_⟩;show cC _ _ _ _ _ none;have l2:2<K.length:=(List.getElem?_eq_some_iff.1 h2).1;have k0:al Tryz.prog 25 (.ptr 0 0) (K.set 2 .dead)=some v:=Jp _ 0 v false (by rw[List.getElem?_set,if_neg (by decide)];exact h0);simp(disch:=first|omega|(simp only[zL];omega))only[go_sem,seval,cC,k0];have hd1:(K.set 2 OB.dead)[1]? =some .dfr:=by rw[List.getElem?_set,if_neg (by decide)];exact h1
  have hE: ∀T,gO ⟨T,K.set 2 .dead,[.mark 1]⟩=some ⟨T,(K.set 2 .dead).set 1 .dead,[]⟩:=by intro T;simp[gO,lC,hd1]
  rcases hin with⟨rfl,w,rfl⟩|⟨d,rfl,hd⟩
  · have hw:=hnil rfl
    rw[h0]at hw;cases hw;exact⟨_,hE _,.inl ⟨_,rfl,rfl,.inl ⟨rfl,rfl,rfl⟩⟩⟩
  · have hd2:d≠2:=by rintro rfl;rw[h2]at hd;cases hd
    have hd1':d≠1:=by rintro rfl;rw[h1]at hd;cases hd
    rw[fY]at hd;refine⟨_,hE _,.inr ⟨d,0,l.length,0,l.map .str,true,rfl,?_,aF l,.inr ⟨rfl,rfl⟩⟩⟩;show((K.set 2 OB.dead).set 1 OB.dead)[d]? =_;rw[List.getElem?_set,if_neg (by omega),List.getElem?_set,if_neg (by omega)];exact hd
theorem BT(x:Bool)(l:List Bytes)(hL:l.length≤1000000):bt Tryz.prog 72 [.func (.func 74) [] [.vptr [.vsl 0 x (l.map .str)]]] [] (eu l):=by
 refine bt.of0 Tryz.func72 rfl (ab enters Tryz.func72 rfl) (by simp[Tryz.ntmps72]) ?_;show W Tryz.prog 5 _ none _ _ _;refine .vc (by decide) ?_
 repeat'(first|(simp(disch:=first|omega|(simp only[zL];omega))only[go_sem,seval])|(guard_target=~ aj _ _ _ _ _ _ _;refine aj.any (eu l) (Lw x l hL) ?_))
 rintro out K (⟨rfl,rfl,rfl⟩|⟨rfl,rfl⟩)
 ·repeat'(first|(simp(disch:=first|omega|(simp only[zL];omega))only[go_sem,seval]))
  exact⟨_,rfl,.inl ⟨_,rfl,rfl,.inl ⟨rfl,rfl,rfl⟩⟩⟩
 ·repeat'(first|(simp(disch:=first|omega|(simp only[zL];omega))only[go_sem,seval]))
  exact⟨_,rfl,.inr ⟨0,0,l.length,0,l.map .str,true,rfl,rfl,aF l,.inr ⟨rfl,rfl⟩⟩⟩
theorem JA{H:List OB}{d:Nat}{l:List Bytes}{opn:Bool}(hd:H[d]? =some (.cells (l.map .str) opn))(hl:l.length≤1000000):
    bF Tryz.prog 73 [.sl d 0 l.length 0] H (.ret (.tup [])) (H.set d (.cells ((cp l).map .str) opn)):=
  Eb enters Tryz.func73 rfl (fun blk off cap ss w h1 h2 h3=>Tryz.slices_Sort_string blk off cap ss w h1 h2 h3) hd hl
def qB:yV:={pm:=fun f=>true,gm:=fun _=>false,conP:=fun _ _=>none,conS:=fun _ _ _=>none,fuel:=2000}
theorem sO:jW Tryz.prog qB:=⟨by kernel_rfl,enters,fun f args out h=>(by cases h),fun f args H out H' h=>(by cases h)⟩
theorem uL:tV Tryz.prog Tryz.f73 (gl Tryz.prog (cZ Tryz.prog qB 40) qB.pm Tryz.f73.ntmps false qB.fuel (Tryz.f73.body.getD .skip) ⟨bn 0 [.vsl 0 true []],[],[]⟩)=some (.ret (.tup [])):=by kernel_rfl
theorem EC:aa Tryz.prog 73 [.vsl 0 true []] (.ret (.tup [])):=aa.run sO 40 Tryz.func73 rfl (by simp[Tryz.ntmps73]) uL
theorem ED(x:Bool)(l:List Bytes)(hL:l.length≤1000000):bt Tryz.prog 33 [.func (.func 74) [] [.vptr [.vsl 0 x (l.map .str)]]] [] (eu (cp l)):=by
 refine bt.of0 Tryz.func33 rfl (ab enters Tryz.func33 rfl) (by simp[Tryz.ntmps33]) ?_;show W Tryz.prog 9 _ none _ _ _;have hsl:(cp l).length=l.length:=(List.mergeSort_perm l _).length_eq;refine .vc (by decide) ?_
 repeat'(first|(simp(disch:=first|omega|(simp only[zL];omega))only[go_sem,seval])|(guard_target=~ aj _ _ _ _ _ _ _;refine aj.any (eu l) (BT x l hL) ?_))
 rintro out K (⟨rfl,rfl,rfl⟩|⟨rfl,rfl⟩)
 ·have hl:∀H o,aX H [.vsl 0 true []] o=some [.vsl 0 true []]:=by intro H o;rfl
  have h0:cp []=[]:=by simp[cp]
  repeat'(first|(simp(disch:=first|omega|(simp only[zL];omega))only[go_sem,seval,hl])|((with_reducible first|apply aj.pure|apply an.pure);(with_reducible exact EC);(first|rfl|simp only[go_sem])))
  exact⟨_,rfl,.inl ⟨_,rfl,rfl,.inl ⟨h0,rfl,rfl⟩⟩⟩
 ·have hs:=JA (H:=[.cells (l.map .str) true]) (d:=0) (l:=l) (opn:=true) rfl hL
  simp only[List.set_cons_zero]at hs
  repeat'(first|(simp(disch:=first|omega|(simp only[zL];omega))only[go_sem,seval])|(guard_target=~ aj _ _ _ _ _ _ _;refine aj.sh hs ?_))
  exact⟨_,rfl,.inr ⟨0,0,(cp l).length,0,(cp l).map .str,true,by rw[hsl];rfl,rfl,aF _,.inr ⟨rfl,rfl⟩⟩⟩
def Lx(l:List Bytes)(r:AV):Prop:=l=[]∧r=.vsl 0 true []
def Ly(l:List Bytes)(off len wd:Nat)(cs:List AV)(opn:Bool):Prop:=off=0∧len=l.length∧wd=0∧cs=l.map .str∧opn=true
theorem fj{l:List Bytes}{out:Out}{K:List OB}(h:eu l out K):I5 (Lx l) (Ly l) out K:=by
 rcases h with⟨rfl,rfl,rfl⟩|⟨rfl,rfl⟩
 ·exact .inl ⟨_,rfl,rfl,rfl,rfl⟩
 ·exact .inr ⟨0,0,l.length,0,l.map .str,true,rfl,rfl,aF l,rfl,rfl,rfl,rfl,rfl⟩
def sP(k:Kd):AV:=.agg [.vsl 0 true (k.fs.map fun f:Nat=>AV.int .i64 (f:Int)),.bool k.parts,.bool k.many]
def fk:List Bytes:=[nFN,nN,ct,bg,bx,bm,cE]
def fZ:List AV:=[sP ⟨[0],false,false⟩,sP ⟨[2,1],true,false⟩,sP ⟨[3],true,false⟩,sP ⟨[4],false,false⟩,sP ⟨[5],false,false⟩,sP ⟨[6],false,true⟩,sP ⟨[7],false,true⟩]
theorem zA:tV Tryz.prog Tryz.f59 (gl Tryz.prog (cZ Tryz.prog qB 40) qB.pm Tryz.f59.ntmps false qB.fuel (Tryz.f59.body.getD .skip) ⟨bn 0 [],[],[]⟩)=some (.ret (.vmap (fk.map .str) fZ)):=by kernel_rfl
theorem wP:aa Tryz.prog 59 [] (.ret (.vmap (fk.map .str) fZ)):=aa.run sO 40 Tryz.func59 rfl (by simp) zA
def fsV(k:Kd):AV:=.vsl 0 true (k.fs.map fun f:Nat=>AV.int .i64 (f:Int))
def encS(l:Ln)(k:Kd)(n:Bytes):AV:=.agg [.str l.g,.str l.n,.vsl 3 l.x (l.ps.map aH),.str l.v,fsV k,.bool k.parts,.bool k.many,.str n]
set_option maxRecDepth 8000 in
theorem Lz(l:Ln)(k:Kd)(n:Bytes)(hv:l.v.length≤1000000):aa Tryz.prog 70 [encS l k n] (.ret (.vsl 0 false ((dn k l.v).map .str))):=by
 obtain⟨fs,b,m⟩:=k;obtain⟨g,nm,x,ps,v⟩:=l;obtain⟨P,hP⟩:∃P,P=ps.map aH:=⟨_,rfl⟩
 obtain⟨Fv,hF⟩:∃Fv,Fv=fs.map fun f:Nat=>AV.int .i64 (f:Int):=⟨_,rfl⟩
 simp only[encS,fsV,←hP,←hF,dn];have hb1:=kU v;have hpt:=Hn v false hv;have hm:mk false=59:=rfl;rw[hm]at hpt;cases b with
 |true=>
  rw[if_pos rfl];refine aa.of Tryz.func70 rfl (ab enters Tryz.func70 rfl) (by simp[Tryz.ntmps70]) ?_;show W Tryz.prog 15 0 none _ _ _;refine W.vc (by decide) ?_
  repeat'(first|(simp(disch:=first|omega|(simp only[zL];omega))only[go_sem,seval])|((with_reducible first|apply aj.pure|apply an.pure);(with_reducible exact hpt);(first|rfl|simp only[go_sem])))
  exact wh 2 rfl rfl rfl (by simp[Av.get,AV.hf,aF]) (.refl _)
 |false=>
  rw[if_neg (by simp)];refine aa.of Tryz.func70 rfl (ab enters Tryz.func70 rfl) (by simp[Tryz.ntmps70]) ?_;show W Tryz.prog 15 0 none _ _ _;refine W.vc (by decide) ?_
  repeat'(first|(simp(disch:=first|omega|(simp only[zL];omega))only[go_sem,seval,hb1]))
  exact wh 2 rfl rfl rfl (by simp[Av.get,AV.hf,AV.hfs]) (.exact _ _ _)
theorem ga(m:UInt8):∀(s:Bytes) (b:Bool) (cur:Bytes),∀p∈aQ m b cur s,p.length≤cur.length+s.length
 | [],b,cur,p,hp=>by rw[eQ,List.mem_singleton]at hp;subst hp;simp
 |x::t,true,cur,p,hp=>by
  have:=ga m t false (cur++[x]) p hp;simp at this ⊢;omega
 | x::t,false,cur,p,hp=>by
  unfold aQ at hp;split at hp
  ·have:=ga m t true (cur++[x]) p hp
   simp at this ⊢;omega
  ·split at hp
   ·rcases List.mem_cons.1 hp with rfl|hp
    ·simp
    ·have:=ga m t false [] p hp
     simp at this ⊢;omega
   ·have:=ga m t false (cur++[x]) p hp
    simp at this ⊢;omega
theorem uM{k:Kd}{v p:Bytes}(h:p∈dn k v):p.length≤v.length:=by
 unfold dn at h;split at h
 ·simpa using ga 59 v false [] p h
 ·rw[List.mem_singleton]at h;subst h;exact Nat.le_refl _
theorem BU(k:Kd)(v:Bytes):(dn k v).length≤v.length+1:=by
 unfold dn;split
 ·exact dX 59 false [] v
 ·simp
set_option maxRecDepth 8000 in
theorem mq(l:Ln)(k:Kd)(n:Bytes)(hv:l.v.length≤1000000)(hk:k.fs.length≤8):aa Tryz.prog 31 [encS l k n] (.ret (.vsl 0 false ((ba k l.v).map .str))):=by
 have hct:=Lz l k n hv;obtain⟨cs,hcs⟩:∃cs,cs=dn k l.v:=⟨_,rfl⟩
 have hcb:∀p∈cs,p.length≤1000000:=fun p hp=>Nat.le_trans (uM (hcs ▸ hp)) hv;rw[←hcs]at hct;have hvs:ba k l.v=(List.range k.fs.length).map (atC cs):=by rw[ba,hcs]
 rw[hvs];obtain⟨fs,b,m⟩:=k;obtain⟨g,nm,px,ps,v⟩:=l;obtain⟨P,hP⟩:∃P,P=ps.map aH:=⟨_,rfl⟩
 obtain⟨Fv,hF⟩:∃Fv,Fv=fs.map fun f:Nat=>AV.int .i64 (f:Int):=⟨_,rfl⟩
 have hFl:Fv.length=fs.length:=by rw[hF];simp
 simp only[encS,fsV,←hP,←hF]at hct ⊢;simp only at hk;have hPh:AV.hfs P=true:=hP ▸ az ps;have hFh:AV.hfs Fv=true:=by rw[hF,be,List.all_eq_true];intro v hv;obtain⟨l,_,rfl⟩:=List.mem_map.1 hv;rfl
 have hb1:=kU;have hlc:∀H,aI Tryz.prog 25 (.vsl 0 false (cs.map .str)) H=some (.int .i64 cs.length):=by intro H;simp[aI,Tryz.underlying25]
 have hlf:∀H,aI Tryz.prog 64 (.vsl 0 true Fv) H=some (.int .i64 fs.length):=by intro H;simp[aI,Tryz.underlying64,hFl]
 refine aa.of Tryz.func31 rfl (ab enters Tryz.func31 rfl) (by simp[Tryz.ntmps31]) ?_;show W Tryz.prog 31 0 none _ _ _;refine W.vc (by decide) ?_
 repeat'(first|(simp(disch:=first|omega|(simp only[zL];omega))only[go_sem,seval,hlf])|((with_reducible first|apply aj.pure|apply an.pure);(with_reducible exact hct);(first|rfl|simp only[go_sem,hPh,hFh])))
 refine W.bh (X:=Nat×Nat×Bool×List Bytes) (fun x=>[(13,.int .i64 (x.1:Int)),(12,.int .i64 (fs.length:Int)),(3,.vsl 0 false (cs.map .str)),(4,bJ 1 0 0 AV.str x.2.1 x.2.2.1 x.2.2.2)]) (fun x=>mem [.cells [.str g,.str nm,.vsl 3 px P,.str v,.vsl 0 true Fv,.bool b,.bool m,.str n] false] AV.str x.2.1 0 x.2.2.1 x.2.2.2)
  (fun x=>x.1≤fs.length∧x.2.2.2=(List.range x.1).map (atC cs)∧(x.2.2.1=false→x.2.2.2=[])) (fun x=>fs.length - x.1) (0,0,false,[]) ⟨Nat.zero_le _,rfl,fun _=>rfl⟩ ⟨rfl,rfl,rfl,rfl,trivial⟩ rfl ?_
 rintro⟨i,kk,z,out⟩ ⟨l1,l2,l3⟩;simp only at l1 l2 l3 ⊢;have hol:out.length=i:=by rw[l2];simp
 have hde:deN (bJ 1 0 0 AV.str kk z out)=bJ 1 0 0 AV.str kk z out:=eX _ _ _ _ _ _ _;refine .vc (by decide) ?_;by_cases h:i<fs.length
 ·have hf:∃f,fs[i]? =some f:=⟨_,List.getElem?_eq_getElem h⟩
  have hap:∀s:Bytes,aG Tryz.prog 25 25 (bJ 1 0 0 AV.str kk z out) (.vsl 0 true [.str s]) (mem [.cells [.str g,.str nm,.vsl 3 px P,.str v,.vsl 0 true Fv,.bool b,.bool m,.str n] false] AV.str kk 0 z out)=some (bJ 1 0 0 AV.str (if z then kk+1 else kk) true (out++[s]),mem [.cells [.str g,.str nm,.vsl 3 px P,.str v,.vsl 0 true Fv,.bool b,.bool m,.str n] false] AV.str (if z then kk+1 else kk) 0 true (out++[s])):=fun s=>
   lT (wd:=0) (bytes:=16) Tryz.underlying25 ik AV.str (fun _=>rfl) (fun _=>rfl) (by decide) [_] kk z out (fun h=>.inl rfl) s true (by omega)
  have hnx:(List.range (i+1)).map (atC cs)=out++[atC cs i]:=by rw[List.range_succ,List.map_append,←l2];rfl
  by_cases h1:i<cs.length
  ·obtain⟨c,hc,hd⟩:=drop_at h1
   have hcc:c.length≤1000000:=hcb c (List.mem_of_getElem? hc);have hia:∀H,ah Tryz.prog 25 (.vsl 0 false (cs.map .str)) (.int .i64 (i:Int)) H=some (.vptr [.str c]):=fun H=>dW (v:=.str c) (by simp[hc]) rfl H;have hat:atC cs i=cq c:=by simp[atC,hc]
   repeat'(first|(simp(disch:=first|omega|(simp only[zL];omega))only[go_sem,seval,hlc,hia,hb1,hap,hde])|((with_reducible first|apply aj.pure|apply an.pure);(with_reducible exact Hm c hcc);(first|rfl|simp only[go_sem])))
   exact⟨(i+1,(if z then kk+1 else kk),true,out++[cq c]),⟨h,by simp only;rw[hnx,hat],fun h=>by cases h⟩,by simp only;omega,⟨rfl,rfl,rfl,rfl,trivial⟩,rfl⟩
  ·have hat:atC cs i=[]:=by simp[atC,List.getElem?_eq_none (show cs.length≤i by omega)]
   repeat'(first|(simp(disch:=first|omega|(simp only[zL];omega))only[go_sem,seval,hlc,hb1,hap,hde]))
   exact⟨(i+1,(if z then kk+1 else kk),true,out++[[]]),⟨h,by simp only;rw[hnx,hat],fun h=>by cases h⟩,by simp only;omega,⟨rfl,rfl,rfl,rfl,trivial⟩,rfl⟩
 ·have e:i=fs.length:=by omega
  subst e
  repeat'(first|(simp(disch:=first|omega|(simp only[zL];omega))only[go_sem,seval,hde]))
  rw[←l2];obtain⟨w,hz,hw⟩:=lR (B:=[.cells [.str g,.str nm,.vsl 3 px P,.str v,.vsl 0 true Fv,.bool b,.bool m,.str n] false]) (f:=AV.str) (w0:=0) (k:=kk) (z:=z) (L:=out) (n:=19) (M:=mem [.cells [.str g,.str nm,.vsl 3 px P,.str v,.vsl 0 true Fv,.bool b,.bool m,.str n] false] AV.str kk 0 z out) (fun h=>by subst h;exact gU) (aF _) (eo _);exact nQ 2 rfl rfl rfl hz (by rcases hw with rfl|rfl<;>first|exact .exact _ _ _|exact .refl _)
def kdL:Option Kd→List AV
 |some k=>[fsV k,.bool k.parts,.bool k.many]
 |none=>[.nilsl,.bool false,.bool false]
def dq(l:Ln):AV:=.agg ([.str l.g,.str l.n,.vsl 3 l.x (l.ps.map aH),.str l.v]++kdL (aD (small l.n))++[.str (small l.n)])
theorem ulK:Tryz.prog.underlying 97=some (.map 9 66):=by kernel_rfl
theorem zaK:bZ Tryz.prog 66=some (.agg [.nilsl,.bool false,.bool false]):=by kernel_rfl
theorem JB(n:Bytes)(H:List OB):di Tryz.prog 97 (.vmap (fk.map .str) fZ) (.str n) true H=some (.tup [.agg (kdL (aD n)),.bool (aD n).isSome]):=by
 have h:=kn n;generalize aD n=o at h ⊢;cases h with
 |none _ h1 h2 h3 h4 h5 h6 h7=>
  have e:∀m,n≠m→(n==m)=false:=fun m h=>by simp[h]
  simp[di,ulK,Tryz.underlying9,zaK,oD,fk,fB,jq,e _ h1,e _ h2,e _ h3,e _ h4,e _ h5,e _ h6,e _ h7,kdL]
 |_=>simp[di,ulK,Tryz.underlying9,zaK,oD,fk,fZ,fB,jq,nFN,nN,ct,bg,bx,bm,cE,kdL,sP,fsV]
theorem BV(c:Cd):aa Tryz.prog 30 [aS c] (.ret (.func (.func 68) [] [.vptr [.str c.ver,.vsl 5 c.x (c.ls.map aq)],.vptr [.vmap (fk.map .str) fZ]])):=by
 obtain⟨ver,x,ls⟩:=c;simp only[aS];obtain⟨L,hL⟩:∃L,L=ls.map aq:=⟨_,rfl⟩
 obtain⟨A,hA⟩:∃A,A=AV.vmap (fk.map .str) fZ:=⟨_,rfl⟩
 have hLh:AV.hfs L=true:=hL ▸ aN ls;have hAh:AV.hf A=true:=by rw[hA];rfl
 have hAc:A.cells=[A]:=by rw[hA];rfl
 have hAi:A.isC=true:=by rw[hA];rfl
 have hAd:deN A=A:=by rw[hA];rfl
 have hkv:=wP;rw[←hA]at hkv ⊢;rw[←hL];have h1:fz [.cells [.str ver,.vsl 5 x L] false,.cells [A] false] 19 (.ptr 0 0)=some (.vptr [.str ver,.vsl 5 x L]):=by
  unfold fz;rw[if_neg (by simp[AV.hf])];simp[AV.hfs,AV.hf,hLh]
 have h2:fz [.cells [.str ver,.vsl 5 x L] false,.cells [A] false] 19 (.ptr 1 0)=some (.vptr [A]):=by
  unfold fz;rw[if_neg (by simp[AV.hf])];simp[AV.hfs,hAh]
 have hz:fz [.cells [.str ver,.vsl 5 x L] false,.cells [A] false] 20 (.func (.func 68) [] [.ptr 0 0,.ptr 1 0])=some (.func (.func 68) [] [.vptr [.str ver,.vsl 5 x L],.vptr [A]]):=by
  unfold fz;rw[if_neg (by simp[AV.hf,AV.hfs])];simp[AV.hfs,AV.hf,h1,h2]
 refine aa.of Tryz.func30 rfl (ab enters Tryz.func30 rfl) (by simp[Tryz.ntmps30]) ?_;show W Tryz.prog 6 0 none _ _ _;refine W.vc (by decide) ?_
 repeat'(first|(simp(disch:=first|omega|(simp only[zL];omega))only[go_sem,seval,hAc,hAi,hAd])|((with_reducible first|apply aj.pure|apply an.pure);(with_reducible exact hkv);(first|rfl|simp only[go_sem,hLh,hAh])))
 exact nQ 2 rfl rfl rfl hz (.refl _)
theorem gq0(K:List OB)(a:OB)(t:List OB):(K++a::t)[K.length]? =some a:=by simp
theorem gq1(K:List OB)(a b:OB)(t:List OB):(K++a::b::t)[K.length+1]? =some b:=by simp[List.getElem?_append]
theorem sq0(K:List OB)(a c:OB)(t:List OB):(K++a::t).set K.length c=K++c::t:=by simp
theorem sq1(K:List OB)(a b c:OB)(t:List OB):(K++a::b::t).set (K.length+1) c=K++a::c::t:=by simp[List.set_append]
theorem lq1(K:List OB)(a:OB):(K++[a]).length=K.length+1:=by simp
theorem mr(l:Ln):aq l=.agg [.str l.g,.str l.n,.vsl 3 l.x (l.ps.map aH),.str l.v]:=rfl
set_option maxRecDepth 8000 in
theorem BW (yid:Nat) (c:Cd) (hn:c.ls.length≤1000000) (p:Nat→Bool) (H:List OB) (J:Nat→List OB→Prop) (B:List OB→Prop) (hJ:J 0 H) (hmono: ∀i K M,J i K→J i (K++M))
    (hstep: ∀i l K,c.ls[i]? =some l→J i K→ ∃K',(p i=true∧YFn Tryz.prog yid [dq l,.bool (aD (small l.n)).isSome] K (.ret (.bool true)) K'∧J (i+1) K')∨(p i=false∧YFn Tryz.prog yid [dq l,.bool (aD (small l.n)).isSome] K (.ret (.bool false)) K'∧B K')):
    bt Tryz.prog 68 [.yld yid,.vptr [.str c.ver,.vsl 5 c.x (c.ls.map aq)],.vptr [.vmap (fk.map .str) fZ]] H (fun out K=>out=.ret (.tup [])∧(((List.range c.ls.length).all p=true∧J c.ls.length K)∨((List.range c.ls.length).all p=false∧B K))):=by
  obtain⟨ver,fx,ls⟩:=c;simp only at hn hstep ⊢;refine bt.ofX Tryz.func68 rfl (ab enters Tryz.func68 rfl) (by simp[Tryz.ntmps68]) ?_;show W Tryz.prog 34 _ none _ _ _;have hln: ∀K,aI Tryz.prog 22 (.vsl 5 fx (ls.map aq)) K=some (.int .i64 ls.length):=by intro K;simp[aI,Tryz.underlying22]
  refine .vc (by decide) ?_
  repeat'(first|(simp(disch:=first|omega|(simp only[zL];omega))only[go_sem,seval,hln]))
  refine W.loop (X:=Nat) (fun i a=>aB a.T [(0,.yld yid),(2,.vptr [.vmap (fk.map .str) fZ]),(10,.vsl 5 fx (ls.map aq)),(11,.int .i64 ls.length),(12,.int .i64 (i:Int))]∧J i a.H∧a.D=[]∧i≤ls.length∧(List.range i).all p=true) (fun i=>ls.length - i) 0 ⟨⟨rfl,rfl,rfl,rfl,rfl,trivial⟩,hJ,rfl,Nat.zero_le _,rfl⟩ ?_;rintro i ⟨T,K,D⟩ ⟨h1,h2,rfl,h4,h5⟩;simp only at h1 h2 h4 h5;refine W.bQ _ h1 (.vc (by decide) ?_);by_cases h:i<ls.length
  · obtain⟨l,hl,hdrop⟩:=drop_at h
    have hia: ∀K,ah Tryz.prog 22 (.vsl 5 fx (ls.map aq)) (.int .i64 (i:Int)) K=some (.vptr [.str l.g,.str l.n,.vsl 3 l.x (l.ps.map aH),.str l.v]):=fun K=>jj (v:=aq l) (by simp[hl]) rfl K;have hrg:(List.range (i+1)).all p=p i:=by rw[List.range_succ,List.all_append,h5];simp
    obtain⟨P,hP⟩: ∃P,P=l.ps.map aH:=⟨_,rfl⟩
    obtain⟨A,hA⟩: ∃A,A=AV.vmap (fk.map .str) fZ:=⟨_,rfl⟩
    have hld: ∀K,al Tryz.prog 97 (.vptr [A]) K=some A:=by intro K;rw[hA];simp[al,IS,KO,ldA]
    have hlk:=JB (small l.n);have hst:=hstep i l (K++[.cells [.str l.g,.str l.n,.vsl 3 l.x (l.ps.map aH),.str l.v] false,.cells (kdL (aD (small l.n))) false]) hl (hmono _ _ _ h2);have hkl: ∀o:Option Kd,∃a b c,kdL o=[a,b,c]∧a.isC=true∧b.isC=true∧c.isC=true:=by
      intro o;cases o<;>exact⟨_,_,_,rfl,rfl,rfl,rfl⟩
    obtain⟨ka,kb,kc,hk,k1,k2,k3⟩:=hkl (aD (small l.n));rw[dq]at hst;rw[hk]at hlk hst;rw[←hP]at hia hst;rw[←hA]at hlk ⊢;simp only[List.cons_append,List.nil_append]at hst;obtain⟨K',hs⟩:=hst;rcases hs with⟨hp,hy,hJ'⟩|⟨hp,hy,hB⟩
    · repeat'(first|(simp(disch:=first|omega|(simp only[zL];omega))only[go_sem,seval,hia,hld,hlk,k1,k2,k3,gq0,gq1,sq0,sq1,lq1,List.append_assoc])|(guard_target=~ aj _ _ _ _ _ _ _;refine aj.sh hy ?_)|((with_reducible first|apply aj.pure|apply an.pure);(with_reducible exact mU l.n);(first|rfl|simp only[go_sem])))
      exact⟨i+1,⟨⟨rfl,rfl,rfl,rfl,rfl,trivial⟩,hJ',h,by rw[hrg,hp]⟩,by omega⟩
    · have hno:(List.range ls.length).all p=false:=by
        rw[List.all_eq_false];exact⟨i,List.mem_range.2 h,by simp[hp]⟩
      repeat'(first|(simp(disch:=first|omega|(simp only[zL];omega))only[go_sem,seval,hia,hld,hlk,k1,k2,k3,gq0,gq1,sq0,sq1,lq1,List.append_assoc])|(guard_target=~ aj _ _ _ _ _ _ _;refine aj.sh hy ?_)|((with_reducible first|apply aj.pure|apply an.pure);(with_reducible exact mU l.n);(first|rfl|simp only[go_sem])))
      exact⟨_,_,⟨rfl,.inr ⟨hno,hB⟩⟩,_,rfl,rfl,_,rfl,rfl⟩
  · have e:i=ls.length:=by omega
    subst e
    repeat'(first|(simp(disch:=first|omega|(simp only[zL];omega))only[go_sem,seval]))
    exact⟨_,_,⟨rfl,.inl ⟨h5,h2⟩⟩,_,rfl,rfl,_,rfl,rfl⟩
def bw(k:Kd)(c:List Val):List Bytes:=k.fs.map fun f=>hdB (ar c f)
set_option maxRecDepth 8000 in
theorem yi(k:Kd)(c:List Val)(hc:c.length=8)(hk:k.fs.length≤8)(hf8:∀f∈k.fs,f<8):bt Tryz.prog 58 [.agg [fsV k,.bool k.parts,.bool k.many],.agg (c.map av)] [] (eu (bw k c)):=by
 obtain⟨fs,b,m⟩:=k;simp only[fsV,bw]at hk hf8 ⊢;obtain⟨Fv,hF⟩:∃Fv,Fv=fs.map fun f:Nat=>AV.int .i64 (f:Int):=⟨_,rfl⟩
 have hFl:Fv.length=fs.length:=by rw[hF];simp
 have hFh:AV.hfs Fv=true:=by rw[hF,be,List.all_eq_true];intro v hv;obtain⟨l,_,rfl⟩:=List.mem_map.1 hv;rfl
 rw[←hF];have hb1:=kU;have hlf:∀H,aI Tryz.prog 64 (.vsl 0 true Fv) H=some (.int .i64 fs.length):=by intro H;simp[aI,Tryz.underlying64,hFl]
 have hch:=aJ c;obtain⟨B,hB⟩:∃B:List OB,B=[.cells [.vsl 0 true Fv,.bool b,.bool m] false,.cells (c.map av) false]:=⟨_,rfl⟩
 refine bt.of0 Tryz.func58 rfl (ab enters Tryz.func58 rfl) (by simp[Tryz.ntmps58]) ?_;show W Tryz.prog 24 _ none _ _ _;refine .vc (by decide) ?_
 repeat'(first|(simp(disch:=first|omega|(simp only[zL];omega))only[go_sem,seval,hlf]))
 refine W.bh (X:=Nat×Nat×Bool×List Bytes) (fun x=>[(11,.int .i64 (x.1:Int)),(10,.int .i64 (fs.length:Int)),(9,.vsl 0 true Fv),(3,.ptr 1 0),(5,bJ 2 0 0 AV.str x.2.1 x.2.2.1 x.2.2.2)]) (fun x=>mem [.cells [.vsl 0 true Fv,.bool b,.bool m] false,.cells (c.map av) false] AV.str x.2.1 0 x.2.2.1 x.2.2.2)
  (fun x=>x.1≤fs.length∧x.2.2.2=(fs.take x.1).map (fun f=>hdB (ar c f))∧(x.2.2.1=false→x.2.2.2=[])) (fun x=>fs.length - x.1) (0,0,false,[]) ⟨Nat.zero_le _,by simp,fun _=>rfl⟩ ⟨rfl,rfl,rfl,rfl,rfl,trivial⟩ rfl ?_
 rintro⟨i,kk,z,out⟩ ⟨l1,l2,l3⟩;simp only at l1 l2 l3 ⊢;have hol:out.length=i:=by rw[l2];simp;omega
 have hde:deN (bJ 2 0 0 AV.str kk z out)=bJ 2 0 0 AV.str kk z out:=eX _ _ _ _ _ _ _;refine .vc (by decide) ?_;by_cases h:i<fs.length
 ·obtain⟨f,hf,hfd⟩:=drop_at h
  have hf0:=hf8 f (List.mem_of_getElem? hf);obtain⟨v,hv⟩:∃v,c[f]? =some v:=⟨_,List.getElem?_eq_getElem (by omega)⟩
  have hi1:∀H,ah Tryz.prog 64 (.vsl 0 true Fv) (.int .i64 (i:Int)) H=some (.vptr [.int .i64 (f:Int)]):=fun H=>zk (v:=.int .i64 (f:Int)) (by rw[hF];simp[hf]) rfl H;have hia:∀H,ah Tryz.prog 27 (.ptr 1 0) (.int .i64 (f:Int)) H=some (.ptr 1 f):=eG 1 f hf0;have hld:al Tryz.prog 25 (.ptr 1 f) (mem [.cells [.vsl 0 true Fv,.bool b,.bool m] false,.cells (c.map av) false] AV.str kk 0 z out)=some (av v):=kG _ 1 f c v false (lP (by simp)) hv
  have hap:∀s:Bytes,aG Tryz.prog 25 25 (bJ 2 0 0 AV.str kk z out) (.vsl 0 true [.str s]) (mem [.cells [.vsl 0 true Fv,.bool b,.bool m] false,.cells (c.map av) false] AV.str kk 0 z out)=some (bJ 2 0 0 AV.str (if z then kk+1 else kk) true (out++[s]),mem [.cells [.vsl 0 true Fv,.bool b,.bool m] false,.cells (c.map av) false] AV.str (if z then kk+1 else kk) 0 true (out++[s])):=fun s=>
   lT (wd:=0) (bytes:=16) Tryz.underlying25 ik AV.str (fun _=>rfl) (fun _=>rfl) (by decide) [_,_] kk z out (fun h=>.inl rfl) s true (by omega)
  have hnx:(fs.take (i+1)).map (fun f=>hdB (ar c f))=out++[hdB (ar c f)]:=by rw[List.take_add_one,hf,List.map_append,←l2];rfl
  have hfv:ar c f=v.2:=eP c f v hv;rw[hfv]at hnx;obtain⟨x,l⟩:=v;simp only[av]at hld hnx;have hln:(AV.vsl 0 x (l.map .str)).hf=true:=by simp[AV.hf,aF]
  repeat'(first|(simp(disch:=first|omega|(simp only[zL];omega))only[go_sem,seval,hi1,hia,hld,hb1,hap,hde])|((with_reducible first|apply aj.pure|apply an.pure);(with_reducible exact Hs x l);(first|rfl|simp only[go_sem,aF])))
  exact⟨(i+1,(if z then kk+1 else kk),true,out++[hdB l]),⟨h,by simp only;rw[hnx],fun h=>by cases h⟩,by simp only;omega,⟨rfl,rfl,rfl,rfl,rfl,trivial⟩,rfl⟩
 ·have e:i=fs.length:=by omega
  subst e;rw[List.take_length]at l2
  repeat'(first|(simp(disch:=first|omega|(simp only[zL];omega))only[go_sem,seval,hde]))
  rw[←l2];cases z with
  |false=>
   have h0:=l3 rfl;subst h0;exact⟨_,rfl,.inl ⟨_,rfl,rfl,.inl ⟨rfl,rfl,rfl⟩⟩⟩
  |true=>
   exact⟨_,rfl,.inr ⟨2+kk,0,out.length,0,out.map .str,true,rfl,(by have:=gU (B:=[.cells [.vsl 0 true Fv,.bool b,.bool m] false,.cells (c.map av) false]) (f:=AV.str) (k:=kk) (j:=0) (L:=out);rw[fY]at this;exact this),aF out,.inr ⟨rfl,rfl⟩⟩⟩
theorem sQ(k:Kd)(c:List Val)(hc:c.length=8)(hk:k.fs.length≤8)(hf8:∀f∈k.fs,f<8):aa Tryz.prog 58 [.agg [fsV k,.bool k.parts,.bool k.many],.agg (c.map av)] (.ret (.vsl 0 false ((bw k c).map .str))):=
 (yi k c hc hk hf8).pure (lW (aF _) (eo _))
theorem yj{F:Nat→Nat→Prop}{w:World}{b:Nat}:∀{l:List Bytes} {o:Nat},VRe F w noμ (l.map .str) 1 b o→∀j s,l[j]? =some s→F b (o+j)∧w.cell? ⟨b,o+j,none⟩=some (.string ⟨s.toArray⟩)
 | [],_,_,j,s,h=>by simp at h
 | x::t,o,h,j,s,hj=>by
  cases h with
  | cons _ _ _ _ _ hs hm ht=>
   cases j with
   |zero=>
    simp at hj;subst hj;cases hm with
    |cons _ V _ _ _ hF hc hV _=>cases hV;exact⟨hF,hc⟩
   |succ j=>
    have:=yj ht j s (by simpa using hj);rw[show o+(j+1)=o+1+j by omega];exact this
theorem yk(x:Bool)(l:List Bytes)(sep:Bytes)(hl:l.length≤1000000)(hj:(Lib.join l sep).length≤140737488355328):aa Tryz.prog 62 [.vsl 0 x (l.map .str),.str sep] (.ret (.str (Lib.join l sep))):=by
 intro F w Vs hF hvs;cases hvs with
 |cons _ V _ _ h1 h2=>
 cases h2 with
 |cons _ V2 _ _ h3 h4=>
 cases h4;cases h3 with
 |str _ hsb=>
 cases h1 with
 |vsl _ _ _ A cap hx hc hb h=>
 have hr:∀w',VR F w' noμ (.str (Lib.join l sep)) (.string ⟨(Lib.join l sep).toArray⟩):=fun w'=>.str _ (by simp[ay];omega);cases l with
 |nil=>
  refine .inl ⟨w,ab enters Tryz.func62 rfl _ _,rfl,(Tryz.strings_Join_none A cap ⟨sep.toArray⟩ w).mono ?_⟩;rintro e w' ⟨rfl,rfl⟩;exact⟨Below.refl _ _,F,fun _ _ h=>h,fun b o h=>hF b o h,fun _ _ _ h=>h,.ret _ _ (hr _)⟩
 | cons u t=>
  cases h with
  | «at» _ _ b o he=>
  have hat:=yj he;have hm:((u::t).map fun s:Bytes=>(⟨s.toArray⟩:ByteArray)).map (·.data.toList)=u::t:=by simp[Function.comp_def]
  have hlen:(((u::t).map AV.str).length)=((u::t).map fun s:Bytes=>(⟨s.toArray⟩:ByteArray)).length:=by simp
  have hcon:=Tryz.strings_Join b o cap ((u::t).map fun s:Bytes=>(⟨s.toArray⟩:ByteArray)) ⟨sep.toArray⟩ w (by
   intro j y hy;rw[List.getElem?_map,Option.map_eq_some_iff]at hy;obtain⟨s,hs,rfl⟩:=hy
   exact(hat j s hs).2) (hF b o (by simpa using(hat 0 u rfl).1)) (by rw[List.length_map];omega) (by rw[←hlen];exact hc) (by rw[hm];exact hj)
  rw[hm]at hcon;refine .inl ⟨w,ab enters Tryz.func62 rfl _ _,rfl,?_⟩;rw[hlen];refine hcon.mono ?_;rintro e w' ⟨rfl,hbl⟩;exact⟨hbl,F,fun _ _ h=>h,fun b o h=>Nat.lt_of_lt_of_le (hF b o h) hbl.size,fun _ _ _ h=>h,.ret _ _ (hr _)⟩
theorem BX(l:List Bytes):Lib.join l []=l.flatten:=by
 induction l with
 |nil=>rfl
 | cons u t ih=>
  cases t with
  |nil=>simp[Lib.join,List.intercalate]
  |cons v t=>
   have:Lib.join (u::v::t) []=u++Lib.join (v::t) []:=by simp[Lib.join,List.intercalate]
   rw[this,ih];rfl
theorem BZ(x:Bool)(l:List Bytes)(hl:l.length≤1000000)(hj:l.flatten.length≤140737488355328):aa Tryz.prog 60 [.vsl 0 x (l.map .str)] (.ret (.bool (l.flatten==[]))):=by
 have hjn:=yk x l [] hl (by rw[BX];exact hj);rw[BX]at hjn;obtain⟨b,hb⟩:∃b,b=(l.flatten==[]):=⟨_,rfl⟩
 rw[←hb];refine aa.of Tryz.func60 rfl (ab enters Tryz.func60 rfl) (by simp[Tryz.ntmps60]) ?_;show W Tryz.prog 6 0 none _ _ _;refine W.vc (by decide) ?_
 repeat'(first|(simp(disch:=first|omega|(simp only[zL];omega))only[go_sem,seval])|((with_reducible first|apply aj.pure|apply an.pure);(with_reducible exact hjn);(first|rfl|simp only[go_sem])))
 exact⟨_,rfl,_,rfl,by rw[hb];exact .refl _⟩
theorem FI(x:Bool)(l:List Bytes)(s:Bytes):aa Tryz.prog 113 [.str s,.vptr [.vsl 0 x (l.map .str)]] (.ret (.bool (decide (s∈l)))):=by
 have hc:=ri x l s;obtain⟨b,hb⟩:∃b,b=decide (s∈l):=⟨_,rfl⟩
 rw[←hb]at hc ⊢;have hld:∀K,al Tryz.prog 25 (.vptr [.vsl 0 x (l.map .str)]) K=some (.vsl 0 x (l.map .str)):=by intro K;simp[al,qx,AX,ldA]
 refine aa.of Tryz.func113 rfl (ab enters Tryz.func113 rfl) (by simp[Tryz.ntmps113]) ?_;show W Tryz.prog 7 0 none _ _ _;refine W.vc (by decide) ?_
 repeat'(first|(simp(disch:=first|omega|(simp only[zL];omega))only[go_sem,seval,hld])|((with_reducible first|apply aj.pure|apply an.pure);(with_reducible exact hc);(first|rfl|simp only[go_sem,aF])))
 exact⟨_,rfl,_,rfl,.refl _⟩
end Go.Proofs.YtekcidbpejicdaaGreatDoor
