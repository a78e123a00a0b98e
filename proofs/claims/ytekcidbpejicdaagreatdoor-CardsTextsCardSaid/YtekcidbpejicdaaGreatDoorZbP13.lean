/- Contracts of functions that the statements of this seat reach: under the conditions named at each theorem. -/
import Derived.Test.YtekcidbpejicdaaGreatDoorZbP8
import Derived.Test.YtekcidbpejicdaaGreatDoorZbP11
import Derived.Test.YtekcidbpejicdaaGreatDoorZbP12
import Derived.Test.YtekcidbpejicdaaGreatDoorZbP10
import Derived.Test.YtekcidbpejicdaaGreatDoorZbP7
import Derived.Test.YtekcidbpejicdaaGreatDoorZbP9
namespace Go.Proofs.YtekcidbpejicdaaGreatDoor
set_option linter.unusedVariables false
set_option linter.unusedSimpArgs false
open Go Go.Av Go.RowKit
def nFN:Bytes:=[102,110]
def nN:Bytes:=[110]
def dU:Bytes:=[111,114,103]
def bA:Bytes:=[116,105,116,108,101]
def cu:Bytes:=[110,111,116,101]
def bB:Bytes:=[101,109,97,105,108]
def dV:Bytes:=[116,101,108]
structure Kd where
 fs:List Nat
 parts:Bool
 many:Bool
def aV(n:Bytes):Option Kd:=
 if n=nFN then some ⟨[0],false,false⟩else if n=nN then some ⟨[2,1],true,false⟩else if n=dU then some ⟨[3],true,false⟩else if n=bA then some ⟨[4],false,false⟩
 else if n=cu then some ⟨[5],false,false⟩else if n=bB then some ⟨[6],false,true⟩else if n=dV then some ⟨[7],false,true⟩else none
def gR(k:Kd)(v:Bytes):List Bytes:=if k.parts then ei 59 v else [v]
def atC(p:List Bytes)(n:Nat):Bytes:=match p[n]? with|some s=>cH s|none=>[]
def cC(k:Kd)(v:Bytes):List Bytes:=(List.range k.fs.length).map (atC (gR k v))
def iS(v:Bytes)(n:Nat):Bytes:=atC (ei 59 v) n
def bI(l:Ln)(f:Nat):Bytes:=
 if(f=0∧small l.n=nFN)∨(f=4∧small l.n=bA)∨(f=5∧small l.n=cu)∨(f=6∧small l.n=bB)∨(f=7∧small l.n=dV)then cH l.v
 else if(f=2∧small l.n=nN)∨(f=3∧small l.n=dU)then iS l.v 0
 else if f=1∧small l.n=nN then iS l.v 1 else []
inductive KN:Bytes→Option Kd→Prop
 |fn:KN nFN (some ⟨[0],false,false⟩)
 |n:KN nN (some ⟨[2,1],true,false⟩)
 |org:KN dU (some ⟨[3],true,false⟩)
 |title:KN bA (some ⟨[4],false,false⟩)
 |note:KN cu (some ⟨[5],false,false⟩)
 |email:KN bB (some ⟨[6],false,true⟩)
 |tel:KN dV (some ⟨[7],false,true⟩)
 |none (n:Bytes) (h1:n≠nFN) (h2:n≠nN) (h3:n≠dU) (h4:n≠bA) (h5:n≠cu) (h6:n≠bB) (h7:n≠dV):KN n none
theorem kn(n:Bytes):KN n (aV n):=by
 unfold aV;by_cases h1:n=nFN
 ·subst h1;exact .fn
 by_cases h2:n=nN
 ·subst h2;exact .n
 by_cases h3:n=dU
 ·subst h3;exact .org
 by_cases h4:n=bA
 ·subst h4;exact .title
 by_cases h5:n=cu
 ·subst h5;exact .note
 by_cases h6:n=bB
 ·subst h6;exact .email
 by_cases h7:n=dV
 ·subst h7;exact .tel
 rw[if_neg h1,if_neg h2,if_neg h3,if_neg h4,if_neg h5,if_neg h6,if_neg h7];exact .none n h1 h2 h3 h4 h5 h6 h7
theorem EH{l:Ln}{k:Kd}(h:aV (small l.n)=some k){n f:Nat}(hf:k.fs[n]? =some f):(cC k l.v)[n]? =some (bI l f):=by
 have hk:=kn (small l.n);rw[h]at hk;generalize hn:small l.n=nn at hk;unfold cC gR bI iS;rw[hn];cases hk<;>(match n,hf with|0,hf=>?_|1,hf=>?_|n+2,hf=>?_)<;>first|(simp at hf;done)|(simp at hf;subst hf;simp[atC,nFN,nN,dU,bA,cu,bB,dV,List.range,List.range.loop])
theorem BH{l:Ln}{k:Kd}(h:aV (small l.n)=some k){f:Nat}(hf:f∉k.fs):bI l f=[]:=by
 have hk:=kn (small l.n);rw[h]at hk;generalize hn:small l.n=nn at hk;unfold bI;rw[hn];cases hk<;>simp at hf<;>simp[nFN,nN,dU,bA,cu,bB,dV,hf]
theorem yK{l:Ln}(h:aV (small l.n)=none)(f:Nat):bI l f=[]:=by
 have hk:=kn (small l.n);rw[h]at hk;generalize hn:small l.n=nn at hk;unfold bI;rw[hn];cases hk with
 |none _ h1 h2 h3 h4 h5 h6 h7=>simp[h1,h2,h3,h4,h5,h6,h7]
/-! ### Values put in order -/
def comp:List Bytes→List Bytes
 | []=>[]
 | [x]=>[x]
 |x::y::t=>if x=y then comp (y::t)else x::comp (y::t)
theorem kZ:∀(l:List Bytes) (x:Bytes),x∈comp l↔x∈l
 | [],x=>Iff.rfl
 | [a],x=>Iff.rfl
 | a::b::t,x=>by
  rw[comp];split
  ·rename_i h;subst h
   rw[kZ (a::t) x];simp
  ·rw[List.mem_cons,kZ (b::t) x,List.mem_cons (b:=a)]
theorem oE:∀(l:List Bytes),List.Pairwise (fun a b:Bytes=>a≤b) l→List.Pairwise (fun a b:Bytes=>a<b) (comp l)
 | [],_=>.nil
 | [a],_=>by simp[comp]
 | a::b::t,h=>by
  rw[List.pairwise_cons]at h;have ih:=oE (b::t) h.2;rw[comp];split
  ·exact ih
  ·rename_i hne
   rw[List.pairwise_cons];refine⟨fun x hx=>?_,ih⟩;rw[kZ]at hx;have hab:a<b:=by
    rcases BG a b with h1|h1|h1
    ·exact h1
    ·exact(hne h1).elim
    ·exact(BF.1 (h.1 b (by simp)) h1).elim
   rcases List.mem_cons.1 hx with e|e
   ·subst e;exact hab
   ·have:=(List.pairwise_cons.1 h.2).1 x e
    rcases BG b x with h1|h1|h1
    ·exact jX hab h1
    ·subst h1;exact hab
    ·exact(BF.1 this h1).elim
theorem EI{l m:List Bytes}(hl:List.Pairwise (fun a b:Bytes=>a<b) l)(hm:List.Pairwise (fun a b:Bytes=>a<b) m)(h:∀x,x∈l↔x∈m):l=m:=by
 have n1:l.Nodup:=hl.imp fun h=>xq h;have n2:m.Nodup:=hm.imp fun h=>xq h;exact yJ ((List.perm_ext_iff_of_nodup n1 n2).2 h) (hl.imp xr) (hm.imp xr)
def rL(l:List Bytes):List Bytes:=comp (cq l)
theorem BI(l:List Bytes)(x:Bytes):x∈rL l↔x∈l:=by
 rw[rL,kZ,(kY l).mem_iff]
theorem vF(l:List Bytes):List.Pairwise (fun a b:Bytes=>a<b) (rL l):=oE _ (rK l)
def ig(s:Bytes):List Bytes→List Bytes
 | []=>[s]
 |o::t=>if o<s then o::ig s t else if o=s then o::t else s::o::t
theorem oF(s:Bytes):∀(l:List Bytes) (x:Bytes),x∈ig s l↔x=s∨x∈l
 | [],x=>by simp[ig]
 | o::t,x=>by
  rw[ig];split
  ·rw[List.mem_cons,oF s t x,List.mem_cons]
   constructor
   ·rintro(h|h|h)
    ·exact .inr (.inl h)
    ·exact .inl h
    ·exact .inr (.inr h)
   ·rintro(h|h|h)
    ·exact .inr (.inl h)
    ·exact .inl h
    ·exact .inr (.inr h)
  ·split
   ·rename_i h;subst h;simp
   ·simp
theorem oG(s:Bytes):∀(l:List Bytes),List.Pairwise (fun a b:Bytes=>a<b) l→List.Pairwise (fun a b:Bytes=>a<b) (ig s l)
 | [],_=>by simp[ig]
 | o::t,h=>by
  have h':=List.pairwise_cons.1 h;rw[ig];split
  ·rename_i h1
   rw[List.pairwise_cons];refine⟨fun x hx=>?_,oG s t h'.2⟩;rcases(oF s t x).1 hx with e|e
   ·subst e;exact h1
   ·exact h'.1 x e
  ·split
   ·exact h
   ·rename_i h1 h2
    rw[List.pairwise_cons];have hso:s<o:=by
     rcases BG o s with k|k|k
     ·exact(h1 k).elim
     ·exact(h2 k).elim
     ·exact k
    refine⟨fun x hx=>?_,h⟩;rcases List.mem_cons.1 hx with e|e
    ·subst e;exact hso
    ·exact jX hso (h'.1 x e)
def mS(l:List Bytes):List Bytes:=l.foldl (fun o s=>ig s o) []
theorem Km(l:List Bytes):∀o,List.Pairwise (fun a b:Bytes=>a<b) o→List.Pairwise (fun a b:Bytes=>a<b) (l.foldl (fun o s=>ig s o) o)∧∀x,x∈l.foldl (fun o s=>ig s o) o↔x∈o∨x∈l:=by
 induction l with
 |nil=>intro o h;exact⟨h,fun x=>by simp⟩
 | cons s l ih=>
  intro o h;obtain⟨h1,h2⟩:=ih (ig s o) (oG s o h);refine⟨h1,fun x=>?_⟩;rw[List.foldl_cons,h2,oF,List.mem_cons];constructor
  ·rintro((h|h)|h)
   ·exact .inr (.inl h)
   ·exact .inl h
   ·exact .inr (.inr h)
  ·rintro(h|h|h)
   ·exact .inl (.inr h)
   ·exact .inl (.inl h)
   ·exact .inr h
theorem BJ(l:List Bytes):rL l=mS l:=by
 obtain⟨h1,h2⟩:=Km l [] .nil;exact EI (vF l) h1 fun x=>by rw[BI];unfold mS;rw[h2];simp
theorem rM(s:Bytes):∀(l:List Bytes),List.Pairwise (fun a b:Bytes=>a<b) l→∀k,k≤l.length→(∀o∈l.take k,o<s)→(∀o,l[k]? =some o→¬o<s)→ig s l=if l[k]? =some s then l else l.take k++s::l.drop k
 | [],_,k,hk,_,_=>by
  have:k=0:=by simpa using hk
  subst this;simp[ig]
 |o::t,h,0,_,_,h2=>by
  have h3:=h2 o rfl;rw[ig,if_neg h3];simp only[List.getElem?_cons_zero,Option.some.injEq,List.take_zero,List.drop_zero,List.nil_append]
 |o::t,h,k+1,hk,h1,h2=>by
  have h':=List.pairwise_cons.1 h;have h3:o<s:=h1 o (by simp);have ih:=rM s t h'.2 k (by simpa using hk) (fun x hx=>h1 x (by simp[hx])) (fun x hx=>h2 x (by simpa using hx));rw[ig,if_pos h3,ih];simp only[List.getElem?_cons_succ,List.take_succ_cons,List.drop_succ_cons,List.cons_append];split<;>rfl
theorem Kn:tsz Tryz.prog 9=some (esz 0):=by kernel_rfl
theorem My:tag Tryz.prog 9=some (decide (0≠0)):=by kernel_rfl
theorem HV (x:Bool) (es:List AV) (g:FuncId) (fs cs:List AV) (p:AV→Bool) (hs: ∀v∈es,shp 0 v) (hh:AV.hfs es=true∧AV.hfs fs=true∧AV.hfs cs=true)
    (hp: ∀v∈es,ad Tryz.prog g (fs++[v]++cs) (.ret (.bool (p v)))):ad Tryz.prog 100 [.vsl 0 x es,.func (.func g) fs cs] (.ret (.int .i64 (fI p 0 es))):=by
  refine ad.fit fun hfit=> ?_;have hb:es.length≤ay:=hfit (.vsl 0 x es) (by simp);refine ad.of Tryz.func100 rfl (ab enters Tryz.func100 rfl) (by simp[Tryz.ntmps100]) ?_;show W Tryz.prog 19 _ none _ _ _;refine .seq (.region [] (by decide) ?_);simp only[al,gdA,ae,aa,ah,an,evalOp,St.ev,St.put,aL,ofV,ai];have hln: ∀H,aI Tryz.prog 25 (.vsl 0 x es) H=some (.int .i64 es.length):=by intro H;simp[aI,Tryz.underlying25]
  refine .seq (.seq (.region [] (by decide) ?_));simp only[al,deN,gdA,ae,aa,ah,an,evalOp,St.ev,Av.get,St.put,ofV,ai,Nat.reduceEqDiff,↓reduceIte,Option.map_some,hln];refine .block ?_
  refine .bc (X:=Nat) (fun i=>[(8,.int .i64 (i:Int)),(7,.int .i64 es.length),(1,.func (.func g) fs cs),(0,.vsl 0 x es)]) (fun i=>[]) (fun i=>i≤es.length∧fI p i (es.drop i)=fI p 0 es) (fun i=>es.length - i) 0 ⟨Nat.zero_le _,rfl⟩
    (by simp[aC,Av.get]) rfl ?_
  rintro i ⟨hi,hall⟩;refine .seq (.region [] (by decide) ?_);simp only[al,gdA,ae,aa,ah,an,evalOp,St.ev,Av.get,St.put,ai,Nat.reduceEqDiff,↓reduceIte,cU];by_cases h:i<es.length
  · obtain⟨v,hv⟩: ∃v,es[i]? =some v:=⟨es[i],List.getElem?_eq_getElem h⟩
    have hmem:v∈es:=List.mem_of_getElem? hv;have hdrop:es.drop i=v::es.drop (i+1):=by
      rw[List.drop_eq_getElem_cons h];rw[List.getElem?_eq_getElem h]at hv;cases hv;rfl
    rw[hdrop,fI]at hall;have hia: ∀H,ak Tryz.prog 25 (.vsl 0 x es) (.int .i64 (i:Int)) H=some (.vptr v.cells):=by
      intro H;have:=kT (hs v hmem);simp[ak,bt,Tryz.underlying25,Kn,hv,this]
    have hld: ∀H,ao Tryz.prog 9 (.vptr v.cells) H=some v:=fun H=>oh Kn My (hs v hmem) H;have hhf:AV.hfs (fs++([v]++cs))=true:=by
      have h1:AV.hf v=true:=by have:=hh.1;rw[aR]at this;exact List.all_eq_true.1 this v hmem
      have h2:=hh.2.1;have h3:=hh.2.2;rw[aR]at h2 h3 ⊢;simp[List.all_append,h1,h2,h3]
    refine .seq (.cond (t:=true) (by simp[St.ev,Av.get];omega) (.skip ?_));simp only[ai];refine .nO (p v=false) [(8,.int .i64 (i:Int)),(7,.int .i64 es.length),(1,.func (.func g) fs cs),(0,.vsl 0 x es)] [] (x:=Code.block 1 _) ?_ ?_
    · refine .block (.seq (.region [] (by decide) ?_))
      simp only[al,gdA,ae,aa,ah,an,evalOp,St.ev,Av.get,St.put,ai,Nat.reduceEqDiff,↓reduceIte];refine .seq (.region [.pure (.ret (.bool (p v)))] (by decide) ?_);simp only[al,gdA,ae,aa,ah,an,evalOp,St.ev,Av.get,St.put,ai,Nat.reduceEqDiff,↓reduceIte,aG,List.map_cons,List.map_nil,Option.map_some,hia,hld,List.append_assoc,hhf];refine⟨by have:=hp v hmem;rw[List.append_assoc]at this;exact this,?_⟩;cases hpv:p v with
      | true=>
        refine .cond (t:=true) rfl (.seq (.region [] (by decide) ?_));simp only[al,gdA,ae,aa,ah,an,evalOp,St.ev,Av.get,St.put,ai,Nat.reduceEqDiff,↓reduceIte];refine .ret ?_;rw[if_pos hpv]at hall;rw[←hall];exact⟨_,rfl,_,rfl,.refl _⟩
      | false=>
        refine .cond (t:=false) rfl (.skip ?_);refine⟨rfl,?_,rfl,rfl⟩;simp[aC,Av.get]
    · intro hgood
      rw[hgood]at hall;simp only[Bool.false_eq_true,if_false]at hall;refine .region [] (by decide) ?_;have hadd:aH Tryz.prog .add 3 (.int .i64 (i:Int)) (.int .i64 1)=some (.int .i64 ((i+1:Nat):Int)):=by
        rw[dc _ _ (by simp only[ay]at hb;omega)];simp
      simp only[al,gdA,ae,aa,ah,an,evalOp,St.ev,Av.get,St.put,ofV,ai,↓reduceIte,hadd];refine⟨i+1,⟨by omega,hall⟩,by omega,?_,trivial,trivial⟩;simp[aC,Av.get]
  · have hi':i=es.length:=by omega
    subst hi';refine .seq (.cond (t:=false) (by simp[St.ev,Av.get]) (.exit ?_));simp only[ai,↓reduceIte,aO];refine .seq (.region [] (by decide) ?_);have ht:fI p 0 es= -1:=by rw[←hall,List.drop_length];rfl
    rw[ht];simp only[al,gdA,ae,aa,ah,an,evalOp,St.ev,St.put,ofV,ai];exact .ret ⟨_,rfl,_,rfl,.refl _⟩
theorem cfS (x:Bool) (es:List AV) (g:FuncId) (fs cs:List AV) (p:AV→Bool) (hs: ∀v∈es,shp 0 v) (hh:AV.hfs es=true∧AV.hfs fs=true∧AV.hfs cs=true)
    (hp: ∀v∈es,ad Tryz.prog g (fs++[v]++cs) (.ret (.bool (p v)))):ad Tryz.prog 52 [.vsl 0 x es,.func (.func g) fs cs] (.ret (.bool (es.any p))):=by
  refine ad.of Tryz.func52 rfl (ab enters Tryz.func52 rfl) (by simp[Tryz.ntmps52]) ?_;show W Tryz.prog 9 _ none _ _ _;refine .seq (.region [] (by decide) ?_);simp only[al,gdA,ae,aa,ah,an,evalOp,St.ev,St.put,aL,ofV,ai];refine .seq (.region [.pure (.ret (.int .i64 (fI p 0 es)))] (by decide) ?_);obtain⟨h1,h2,h3⟩:=hh;simp only[al,gdA,ae,aa,ah,an,evalOp,St.ev,Av.get,St.put,ofV,ai,Nat.reduceEqDiff,↓reduceIte,aG,AV.hfs,AV.hf,Bool.and_self,List.map_cons,List.map_nil,List.nil_append,List.append_nil,h1,h2,h3,cB,og];refine⟨HV x es g fs cs p hs ⟨h1,h2,h3⟩ hp,?_⟩;exact .ret ⟨_,rfl,_,rfl,.refl _⟩
/-! ### Plain -/
def okK(f:Nat)(x:UInt8):Bool:=!(decide (x.toNat<32)&&(decide (x.toNat≠10)||decide (f≠5)))
def fh(f:Nat)(s:Bytes):Bool:=s.all (okK f)&&(decide (1≤s.length)&&decide (s.length≤200))
def mT:List Bytes→Bool
 | []=>true
 | [_]=>true
 |x::y::t=>Op.bytesLess x y&&mT (y::t)
def fm(f:Nat):Nat:=if 6≤f then 8 else 1
def eR(f:Nat)(l:List Bytes):Bool:=decide (l.length≤fm f)&&(l.all (fh f)&&mT l)
def eu(x:Nat→List Bytes):Bool:=(List.range 8).all (fun f=>eR f (x f))&&decide ((x 0).length=1)
theorem ql{l:List Bytes}{i:Nat}{x y:Bytes}(hx:l[i]? =some x)(hy:l[i+1]? =some y):mT (l.drop i)=(Op.bytesLess x y&&mT (l.drop (i+1))):=by
 have h1:=(List.getElem?_eq_some_iff.1 hx).1;have h2:=(List.getElem?_eq_some_iff.1 hy).1;obtain⟨u,hu,hd⟩:=drop_at h1;obtain⟨v,hv,hd2⟩:=drop_at h2;rw[hx]at hu;cases hu;rw[hy]at hv;cases hv;rw[hd,hd2,mT]
/-! ### A value -/
theorem rN(t:TypeId)(a b:Bytes):aH Tryz.prog .geq t (.str a) (.str b)=some (.bool (!Op.bytesLess a b)):=by simp[aH]
theorem BK(t:TypeId)(a b:Bytes):aH Tryz.prog .lss t (.str a) (.str b)=some (.bool (Op.bytesLess a b)):=by simp[aH]
set_option maxRecDepth 8000 in
theorem Mz(f:Nat)(hf:f<8)(s:Bytes):ad Tryz.prog 99 [.str s,.vptr [.int .i64 (f:Int)]] (.ret (.bool (fh f s))):=by
 refine ad.fit fun hfit=>?_;have hb:s.length≤9223372036854775807:=hfit (.str s) (by simp);have hcv:=cvB s;have hln:=lnB s.length;have hld:∀H,ao Tryz.prog 3 (.vptr [.int .i64 (f:Int)]) H=some (.int .i64 (f:Int)):=by intro H;simp[ao,tz3,tg3,ldA]
 refine ad.of Tryz.func99 rfl (ab enters Tryz.func99 rfl) (by simp[Tryz.ntmps99]) ?_;show W Tryz.prog 32 0 none _ _ _;refine W.vc (by decide) ?_
 repeat'(first|(simp(disch:=first|omega|(simp only[zL];omega))only[go_sem,seval,hcv,hln]))
 refine W.bc (X:=Nat) (fun i=>[(9,.int .i64 (i:Int)),(8,.int .i64 s.length),(7,.sl 0 0 s.length 0),(0,.str s),(1,.vptr [.int .i64 (f:Int)])]) (fun i=>[.cells (av s) true]) (fun i=>i≤s.length∧(s.drop i).all (okK f)=s.all (okK f)) (fun i=>s.length - i) 0 ⟨Nat.zero_le _,rfl⟩ ⟨rfl,rfl,rfl,rfl,rfl,trivial⟩ rfl ?_;rintro i ⟨hi,hall⟩;refine .vc (by decide) ?_;by_cases h:i<s.length
 ·obtain⟨x,hx,hdrop⟩:=drop_at h
  have hia:=iaB s.length i h;have hl5:=J4 s i x hx;rw[hdrop,List.all_cons]at hall;by_cases c1:x.toNat<32
  ·by_cases c2:x.toNat=10
   ·by_cases c3:f=5
    ·have hok:okK f x=true:=by simp[okK,c2,c3]
     rw[hok,Bool.true_and]at hall
     repeat'(first|(simp(disch:=first|omega|(simp only[zL];omega))only[go_sem,seval,hia,hl5,hld]))
     exact⟨i+1,⟨by omega,hall⟩,by omega,rfl,rfl,rfl,rfl,rfl,trivial⟩
    ·have hok:okK f x=false:=by simp[okK,c2,c3]
     have e:fh f s=false:=by rw[fh,←hall,hok];rfl
     rw[e]
     repeat'(first|(simp(disch:=first|omega|(simp only[zL];omega))only[go_sem,seval,hia,hl5,hld]))
     exact⟨_,rfl,_,rfl,.refl _⟩
   ·have hok:okK f x=false:=by simp[okK,c1,c2]
    have e:fh f s=false:=by rw[fh,←hall,hok];rfl
    rw[e]
    repeat'(first|(simp(disch:=first|omega|(simp only[zL];omega))only[go_sem,seval,hia,hl5,hld]))
    exact⟨_,rfl,_,rfl,.refl _⟩
  ·have hok:okK f x=true:=by simp[okK,c1]
   rw[hok,Bool.true_and]at hall
   repeat'(first|(simp(disch:=first|omega|(simp only[zL];omega))only[go_sem,seval,hia,hl5,hld]))
   exact⟨i+1,⟨by omega,hall⟩,by omega,rfl,rfl,rfl,rfl,rfl,trivial⟩
 ·have e:i=s.length:=by omega
  subst e;rw[List.drop_length]at hall;have hv:fh f s=(decide (1≤s.length)&&decide (s.length≤200)):=by rw[fh,←hall];rfl
  rw[hv];by_cases c1:1≤s.length
  ·by_cases c2:s.length≤200
   ·rw[decide_eq_true c1,decide_eq_true c2]
    repeat'(first|(simp(disch:=first|omega|(simp only[zL];omega))only[go_sem,seval]))
    exact⟨_,rfl,_,rfl,.refl _⟩
   ·rw[decide_eq_true c1,decide_eq_false c2]
    repeat'(first|(simp(disch:=first|omega|(simp only[zL];omega))only[go_sem,seval]))
    exact⟨_,rfl,_,rfl,.refl _⟩
  ·rw[decide_eq_false c1,Bool.false_and]
   repeat'(first|(simp(disch:=first|omega|(simp only[zL];omega))only[go_sem,seval]))
   exact⟨_,rfl,_,rfl,.refl _⟩
theorem MA(f:Nat)(hf:f<8)(s:Bytes):ad Tryz.prog 53 [.str s,.vptr [.func (.func 99) [] [.vptr [.int .i64 (f:Int)]]]] (.ret (.bool (!fh f s))):=by
 have hv:=Mz f hf s;have hld:∀H,ao Tryz.prog 53 (.vptr [.func (.func 99) [] [.vptr [.int .i64 (f:Int)]]]) H=some (.func (.func 99) [] [.vptr [.int .i64 (f:Int)]]):=by intro H;simp[ao,Je,LG,ldA]
 refine ad.of Tryz.func53 rfl (ab enters Tryz.func53 rfl) (by simp[Tryz.ntmps53]) ?_;show W Tryz.prog 8 0 none _ _ _;refine W.vc (by decide) ?_
 repeat'(first|(simp(disch:=first|omega|(simp only[zL];omega))only[go_sem,seval,hld])|((with_reducible first|apply aj.pure|apply ar.pure);(with_reducible exact hv);(first|rfl|simp only[go_sem])))
 exact⟨_,rfl,_,rfl,.refl _⟩
theorem vG{g:FuncId}{v:AV}{b:Bool}{k:Nat}(hv:v.hf=true):fz [.cells [v] b] (k+2) (.func (.func g) [] [.ptr 0 0])=some (.func (.func g) [] [.vptr [v]]):=by
 have h1:fz [.cells [v] b] (k+1) (.ptr 0 0)=some (.vptr [v]):=by
  unfold fz;rw[if_neg (by simp[AV.hf])];simp[AV.hfs,hv]
 unfold fz;rw[if_neg (by simp[AV.hf,AV.hfs])];simp[AV.hfs,AV.hf,h1]
theorem HW(f:Nat):ad Tryz.prog 50 [.int .i64 (f:Int)] (.ret (.func (.func 99) [] [.vptr [.int .i64 (f:Int)]])):=by
 refine ad.of Tryz.func50 rfl (ab enters Tryz.func50 rfl) (by simp[Tryz.ntmps50]) ?_;show W Tryz.prog 4 0 none _ _ _;refine W.vc (by decide) ?_
 repeat'(first|(simp(disch:=first|omega|(simp only[zL];omega))only[go_sem,seval]))
 exact kI 2 rfl rfl rfl (vG rfl) (.refl _)
theorem Ko(f:Nat)(hf:f<8):ad Tryz.prog 51 [.int .i64 (f:Int)] (.ret (.int .i64 (fm f:Int))):=by
 by_cases h:6≤f
 case pos=>
  have e:fm f=8:=if_pos h;rw[e];refine ad.of Tryz.func51 rfl (ab enters Tryz.func51 rfl) (by simp[Tryz.ntmps51]) ?_;show W Tryz.prog 5 0 none _ _ _;refine W.vc (by decide) ?_
  repeat'(first|(simp(disch:=first|omega|(simp only[zL];omega))only[go_sem,seval]))
  exact⟨_,rfl,_,rfl,.refl _⟩
 case neg=>
  have e:fm f=1:=if_neg h;rw[e];refine ad.of Tryz.func51 rfl (ab enters Tryz.func51 rfl) (by simp[Tryz.ntmps51]) ?_;show W Tryz.prog 5 0 none _ _ _;refine W.vc (by decide) ?_
  repeat'(first|(simp(disch:=first|omega|(simp only[zL];omega))only[go_sem,seval]))
  exact⟨_,rfl,_,rfl,.refl _⟩
set_option maxRecDepth 8000 in
theorem HX(x:Bool)(l:List Bytes):ad Tryz.prog 54 [.vsl 0 x (l.map .str)] (.ret (.bool (mT l))):=by
 refine ad.fit fun hfit=>?_;have hb:(l.map AV.str).length≤9223372036854775807:=hfit (.vsl 0 x (l.map .str)) (by simp);rw[List.length_map]at hb;refine ad.of Tryz.func54 rfl (ab enters Tryz.func54 rfl) (by simp[Tryz.ntmps54]) ?_;show W Tryz.prog 20 0 none _ _ _;refine W.vc (by decide) ?_
 repeat'(first|(simp(disch:=first|omega|(simp only[zL];omega))only[go_sem,seval]))
 refine W.bc (X:=Nat) (fun i=>[(3,.int .i64 ((i+1:Nat):Int)),(0,.vsl 0 x (l.map .str))]) (fun _=>[]) (fun i=>(i<l.length∨i=0)∧mT (l.drop i)=mT l) (fun i=>l.length - i) 0 ⟨.inr rfl,rfl⟩ ⟨rfl,rfl,trivial⟩ rfl ?_;rintro i ⟨hi,hall⟩;refine .vc (by decide) ?_;by_cases h:i+1<l.length
 ·obtain⟨u,hu,_⟩:=drop_at (show i<l.length by omega)
  obtain⟨v,hv,_⟩:=drop_at h;have h1:∀H,ak Tryz.prog 25 (.vsl 0 x (l.map .str)) (.int .i64 (((i+1:Nat):Int) - 1)) H=some (.vptr [.str u]):=by
   intro H;have:(((i+1:Nat):Int) - 1)=((i:Nat):Int):=by omega
   rw[this];exact eJ (v:=.str u) (by simp[hu]) rfl H
  have h2:∀H,ak Tryz.prog 25 (.vsl 0 x (l.map .str)) (.int .i64 ((i+1:Nat):Int)) H=some (.vptr [.str v]):=fun H=>eJ (v:=.str v) (by simp[hv]) rfl H;rw[ql hu hv]at hall;cases hc:Op.bytesLess u v with
  |true=>
   rw[hc,Bool.true_and]at hall
   repeat'(first|(simp(disch:=first|omega|(simp only[zL];omega))only[go_sem,seval]))
   refine W.bw [] [false,false,false,false,false,false,false,false,false,false] [] mixed (by kernel_rfl) (by kernel_rfl) (by kernel_rfl) ?_
   repeat'(first|(simp(disch:=first|omega|(simp only[zL];omega))only[go_sem,seval,h1,h2,rN,hc]))
   exact⟨i+1,⟨.inl h,hall⟩,by omega,⟨rfl,rfl,trivial⟩⟩
  |false=>
   rw[hc,Bool.false_and]at hall;rw[←hall]
   repeat'(first|(simp(disch:=first|omega|(simp only[zL];omega))only[go_sem,seval]))
   refine W.bw [] [false,false,false,false,false,false,false,false,false,false] [] mixed (by kernel_rfl) (by kernel_rfl) (by kernel_rfl) ?_
   repeat'(first|(simp(disch:=first|omega|(simp only[zL];omega))only[go_sem,seval,h1,h2,rN,hc]))
   exact⟨_,rfl,_,rfl,.refl _⟩
 ·have e:mT (l.drop i)=true:=by
   have:(l.drop i).length≤1:=by simp;omega
   match l.drop i,this with
   | [],_=>rfl
   | [_],_=>rfl
  rw[←hall,e]
  repeat'(first|(simp(disch:=first|omega|(simp only[zL];omega))only[go_sem,seval]))
  exact⟨_,rfl,_,rfl,.refl _⟩
/-! ### A contact's fields -/
abbrev Val:=Bool×List Bytes
def aF(v:Val):AV:=.vsl 0 v.1 (v.2.map .str)
def bR(c:List Val)(f:Nat):List Bytes:=(c.getD f (true,[])).2
theorem br(c:List Val):AV.hfs (c.map aF)=true:=by
 rw[aR,List.all_eq_true];intro v hv;obtain⟨r,_,rfl⟩:=List.mem_map.1 hv;exact(az r.2)
theorem tP(c:List Val):(c.map aF).all AV.one=true:=by
 rw[List.all_eq_true];intro v hv;obtain⟨r,_,rfl⟩:=List.mem_map.1 hv;rfl
theorem HY:zH Tryz.prog 27=some (8,25):=by kernel_rfl
theorem MB:esA Tryz.prog 25=some 0:=by kernel_rfl
theorem Kp(c:List Val)(hc:c.length=8):fM Tryz.prog 27 (.ptr 0 0) [.cells (c.map aF) false]=some (.sl 0 0 8 0):=by
 have:8≤ay:=by decide
 simp[fM,HY,ph,MB,hc,esz,this]
theorem HZ(c:List Val)(hc:c.length=8)(H:List OB)(k:Nat)(b:Bool)(h:H[0]? =some (.cells (c.map aF) b)):fz H (k+1) (.sl 0 0 8 0)=some (.vsl 0 false (c.map aF)):=by
 have ht:((c.map aF).drop 0).take 8=c.map aF:=by rw[List.drop_zero,List.take_of_length_le (by simp[hc])]
 rw[lL h (by simp[hc]) (by rw[ht];exact br c) (by rw[ht];exact tP c),ht]
theorem MC(c:List Val):ad Tryz.prog 98 [.vsl 0 false (c.map aF)] (.ret (.func (.func 140) [] [.vptr [.vsl 0 false (c.map aF)]])):=by
 refine ad.of Tryz.func98 rfl (ab enters Tryz.func98 rfl) (by simp[Tryz.ntmps98]) ?_;show W Tryz.prog 4 0 none _ _ _;refine W.vc (by decide) ?_
 repeat'(first|(simp(disch:=first|omega|(simp only[zL];omega))only[go_sem,seval]))
 exact kI 2 rfl rfl rfl (vG (by simpa[AV.hf]using br c)) (.refl _)
theorem EJ(c:List Val)(hc:c.length=8):ad Tryz.prog 49 [.agg (c.map aF)] (.ret (.func (.func 140) [] [.vptr [.vsl 0 false (c.map aF)]])):=by
 have hs:=Kp c hc;have he:aM Tryz.prog 27 (.ptr 0 0) none none none=none:=by simp[aM,Tryz.underlying27]
 have hg:[AV.sl 0 0 8 0].mapM (fz (cg [0] 0 [.cells (c.map aF) false]) 20)=some [.vsl 0 false (c.map aF)]:=by
  simp[HZ c hc (cg [0] 0 [.cells (c.map aF) false]) 19 false rfl]
 refine ad.of Tryz.func49 rfl (ab enters Tryz.func49 rfl) (by simp[Tryz.ntmps49]) ?_;show W Tryz.prog 5 0 none _ _ _;refine W.vc (by decide) ?_
 repeat'(first|(simp(disch:=first|omega|(simp only[zL];omega))only[go_sem,seval,hs,he])|(guard_target=~ aj _ _ _ _ _ _ _;refine aj.yl [0] _ (MC c) hg ?_))
 exact rn 2 rfl rfl rfl (by simp[Av.get,AV.hf,AV.hfs,br]) (.refl _)
set_option maxRecDepth 8000 in
theorem allI (yid:Nat) (x:Bool) (es:List AV) (hes:es.all AV.one=true) (hL:es.length≤1000000) (p:Nat→Bool) (H:List OB) (J:Nat→List OB→Prop) (B:List OB→Prop) (hJ:J 0 H)
    (hstep: ∀i v K,es[i]? =some v→J i K→ ∃K',(p i=true∧YFn Tryz.prog yid [.int .i64 (i:Int),v] K (.ret (.bool true)) K'∧J (i+1) K')∨(p i=false∧YFn Tryz.prog yid [.int .i64 (i:Int),v] K (.ret (.bool false)) K'∧B K')):
    ba Tryz.prog 140 [.yld yid,.vptr [.vsl 0 x es]] H (fun out K=>out=.ret (.tup [])∧(((List.range es.length).all p=true∧J es.length K)∨((List.range es.length).all p=false∧B K))):=by
  refine ba.ofX Tryz.func140 rfl (ab enters Tryz.func140 rfl) (by simp[Tryz.ntmps140]) ?_;show W Tryz.prog 18 _ none _ _ _;have hld: ∀K,ao Tryz.prog 125 (.vptr [.vsl 0 x es]) K=some (.vsl 0 x es):=by intro K;simp[ao,Jr,Js,ldA]
  have hln: ∀K,aI Tryz.prog 125 (.vsl 0 x es) K=some (.int .i64 es.length):=by intro K;simp[aI,Tryz.underlying125]
  refine .vc (by decide) ?_
  repeat'(first|(simp(disch:=first|omega|(simp only[zL];omega))only[go_sem,seval,hld,hln]))
  refine W.loop (X:=Nat) (fun i a=>aC a.T [(0,.yld yid),(5,.vsl 0 x es),(6,.int .i64 es.length),(7,.int .i64 (i:Int))]∧J i a.H∧a.D=[]∧i≤es.length∧(List.range i).all p=true) (fun i=>es.length - i) 0 ⟨⟨rfl,rfl,rfl,rfl,trivial⟩,hJ,rfl,Nat.zero_le _,rfl⟩ ?_;rintro i ⟨T,K,D⟩ ⟨h1,h2,rfl,h4,h5⟩;simp only at h1 h2 h4 h5;refine W.bG _ h1 (.vc (by decide) ?_);by_cases h:i<es.length
  · obtain⟨v,hv,hdrop⟩:=drop_at h
    have hone:v.one=true:=List.all_eq_true.1 hes v (List.mem_of_getElem? hv);have hia: ∀K,ak Tryz.prog 125 (.vsl 0 x es) (.int .i64 (i:Int)) K=some (.vptr v.cells):=by
      intro K;simp[ak,bt,Tryz.underlying125,ph,hv,dI hone]
    have hlv: ∀K,ao Tryz.prog 25 (.vptr v.cells) K=some v:=by
      intro K;rw[dI hone];simp[ao,ph,Ag,ldA]
    have hrg:(List.range (i+1)).all p=p i:=by rw[List.range_succ,List.all_append,h5];simp
    obtain⟨K',hs⟩:=hstep i v K hv h2;rcases hs with⟨hp,hy,hJ'⟩|⟨hp,hy,hB⟩
    · repeat'(first|(simp(disch:=first|omega|(simp only[zL];omega))only[go_sem,seval,hia,hlv])|(guard_target=~ aj _ _ _ _ _ _ _;refine aj.sh hy ?_))
      exact⟨i+1,⟨⟨rfl,rfl,rfl,rfl,trivial⟩,hJ',h,by rw[hrg,hp]⟩,by omega⟩
    · have hno:(List.range es.length).all p=false:=by
        rw[List.all_eq_false];exact⟨i,List.mem_range.2 h,by simp[hp]⟩
      repeat'(first|(simp(disch:=first|omega|(simp only[zL];omega))only[go_sem,seval,hia,hlv])|(guard_target=~ aj _ _ _ _ _ _ _;refine aj.sh hy ?_))
      exact⟨_,_,⟨rfl,.inr ⟨hno,hB⟩⟩,_,rfl,rfl,_,rfl,rfl⟩
  · have e:i=es.length:=by omega
    subst e
    repeat'(first|(simp(disch:=first|omega|(simp only[zL];omega))only[go_sem,seval]))
    exact⟨_,_,⟨rfl,.inl ⟨h5,h2⟩⟩,_,rfl,rfl,_,rfl,rfl⟩
/-! ### contact.Check -/
theorem EK{H:List OB}{id:Nat}{g h:FuncId}{fs cs es:List AV}{b x o:Bool}{wd:Nat}(hid:H[id]? =some (.cells [.func (.func g) fs cs] b))(h0:AV.hfs es=true)(h1:AV.hfs fs=true)(h2:AV.hfs cs=true):
    aG H [.vsl wd x es,.func (.func h) [] [.ptr id 0]] (.ret (.bool o))=some [.vsl wd x es,.func (.func h) [] [.vptr [.func (.func g) fs cs]]]:=by
  have hc:AV.hf (.func (.func g) fs cs)=true:=by simp[AV.hf,h1,h2]
  have hp:fz H 19 (.ptr id 0)=some (.vptr [.func (.func g) fs cs]):=by
    unfold fz;rw[if_neg (by simp[AV.hf])];simp[hid,AV.hfs,hc]
  have hf:fz H 20 (.func (.func h) [] [.ptr id 0])=some (.func (.func h) [] [.vptr [.func (.func g) fs cs]]):=by
    unfold fz;rw[if_neg (by simp[AV.hf,AV.hfs])];simp[AV.hfs,AV.hf,hp]
  unfold aG;rw[if_neg (by simp[AV.hfs,AV.hf]),if_pos (show(Out.ret (AV.bool o)).scalar=true from rfl)];simp only[List.mapM_cons,List.mapM_nil,Bh h0,hf];rfl
noncomputable def asK:Code:=match Tryz.f25.body with
 |some (.seq _ (.seq (.seq _ (.block _ (.rangeFunc _ _ a _))) _))=>a
 |_=>.skip
noncomputable def bdK:Code:=match Tryz.f25.body with
 |some (.seq _ (.seq (.seq _ (.block _ (.rangeFunc _ _ _ b))) _))=>b
 |_=>.skip
noncomputable def lkK:cW:=⟨31,#[8,9],asK,bdK,.ready,none⟩
noncomputable def kbK:cW:=⟨31,#[8,9],asK,bdK,.busy,none⟩
noncomputable def kdK:cW:=⟨31,#[8,9],asK,bdK,.done,some .ret⟩
abbrev Kq(c:List Val):AV:=.func (.func 140) [] [.vptr [.vsl 0 false (c.map aF)]]
abbrev qm(f:Nat):AV:=.func (.func 99) [] [.vptr [.int .i64 (f:Int)]]
def tK(c:List Val):List (Nat×AV):=[(7,Kq c),(6,.agg (c.map aF)),(2,.ptr 1 0),(1,.ptr 0 0),(0,.agg (c.map aF))]
def jK(c:List Val)(e:Int)(K:cW)(M:List OB):Prop:=
 M[0]? =some (.cells (c.map aF) false)∧M[1]? =some (.cells [.int .i64 e] false)∧M[2]? =some .dfr∧M[3]? =some (.loop (tK c) K)
theorem EL(f:Nat)(l:List Bytes):(l.map AV.str).any (fun v=>match v with| .str s=>!(fh f s)|_=>false)= !(l.all (fh f)):=by
 rw[List.any_map,List.all_eq_not_any_not,Bool.not_not];rfl
set_option maxRecDepth 100000 in
theorem H0(c:List Val)(f:Nat)(hf:f<8)(v:Val)(K:List OB)(hJ:jK c 0 lkK K):
    ∃ K',(eR f v.2=true∧YFn Tryz.prog 3 [.int .i64 (f:Int),aF v] K (.ret (.bool true)) K'∧jK c 0 lkK K')∨
      (eR f v.2=false∧YFn Tryz.prog 3 [.int .i64 (f:Int),aF v] K (.ret (.bool false)) K'∧jK c 2 kdK K'):=by
  obtain⟨h0,h1,h2,h3⟩:=hJ;have l3:3<K.length:=(List.getElem?_eq_some_iff.1 h3).1;obtain⟨x,l⟩:=v;simp only[aF];obtain⟨M0,hM0⟩: ∃M0,M0=K.set 3 (.loop (tK c) kbK):=⟨_,rfl⟩
  have lM0:M0.length=K.length:=by rw[hM0,List.length_set]
  obtain⟨M,hM⟩: ∃M,M=M0++[.cells [qm f] false]:=⟨_,rfl⟩
  have gM: ∀j,j<3→M[j]? =K[j]? :=by
    intro j hj;rw[hM,List.getElem?_append_left (by omega),hM0,List.getElem?_set,if_neg (by omega)]
  have gM3:M[3]? =some (.loop (tK c) kbK):=by
    rw[hM,List.getElem?_append_left (by omega),hM0,List.getElem?_set_self l3]
  have gMk:M[K.length]? =some (.cells [qm f] false):=by rw[hM,←lM0,List.getElem?_concat_length]
  have lM:3<M.length:=(List.getElem?_eq_some_iff.1 gM3).1;have hln:aI Tryz.prog 25 (.vsl 0 x (l.map .str)) M=some (.int .i64 l.length):=by simp[aI,Tryz.underlying25]
  have hp1:=Ko f hf
  have hp2:=cfS x (l.map .str) 53 [] [.vptr [qm f]] (fun v=>match v with| .str s=> !(fh f s)|_=>false)
    (fun v hv=>by obtain⟨b,_,rfl⟩:=List.mem_map.1 hv;rfl) ⟨az l,rfl,rfl⟩ (fun v hv=>by obtain⟨b,_,rfl⟩:=List.mem_map.1 hv;exact MA f hf b)
  rw[EL]at hp2;have hp3:=HX x l;have hpv:=HW f
  have hle: ∀o,aG M [.vsl 0 x (l.map .str),.func (.func 53) [] [.ptr K.length 0]] (.ret (.bool o))=some [.vsl 0 x (l.map .str),.func (.func 53) [] [.vptr [qm f]]]:=
    fun o=>EK gMk (az l) rfl rfl
  have hz:bS Tryz.prog 53=some .nilfunc:=by kernel_rfl
  have hst0:aA Tryz.prog 53 (.ptr K.length 0) (qm f) (M0++[.cells [.nilfunc] false])=some M:=by
    rw[hM,Jf];simp only[stC];rw[←lM0,List.getElem?_concat_length];simp[AV.cells,AV.isC,cz,qm]
  have hfb:eR f l=(decide (l.length≤fm f)&&(l.all (fh f)&&mT l)):=rfl;generalize l.all (fh f)=b2 at*;generalize mT l=b3 at*;have l1:1<M.length:=by omega
  have gM1:M[1]? =some (.cells [.int .i64 0] false):=by rw[gM 1 (by omega)];exact h1
  have hst2:aA Tryz.prog 31 (.ptr 1 0) (.int .i64 2) M=some (M.set 1 (.cells [.int .i64 2] false)):=by
    rw[GA];simp[stC,gM1,AV.cells,AV.isC,cz]
  have good:jK c 0 lkK (M.set 3 (.loop (tK c) lkK)):=by
    have g: ∀j,j<3→(M.set 3 (.loop (tK c) lkK))[j]? =K[j]? :=by
      intro j hj;rw[List.getElem?_set,if_neg (by omega)];exact gM j hj
    exact⟨by rw[g 0 (by omega)];exact h0,by rw[g 1 (by omega)];exact h1,by rw[g 2 (by omega)];exact h2,by rw[List.getElem?_set_self lM]⟩
  have bad:jK c 2 kdK ((M.set 1 (.cells [.int .i64 2] false)).set 3 (.loop (tK c) kdK)):=by
    have g: ∀j,j<3→j≠1→((M.set 1 (.cells [.int .i64 2] false)).set 3 (.loop (tK c) kdK))[j]? =K[j]? :=by
      intro j hj hj1;rw[List.getElem?_set,if_neg (by omega),List.getElem?_set,if_neg (by omega)];exact gM j hj
    refine⟨by rw[g 0 (by omega) (by omega)];exact h0,?_,by rw[g 2 (by omega) (by omega)];exact h2,by rw[List.getElem?_set_self (by rw[List.length_set];exact lM)]⟩;rw[List.getElem?_set,if_neg (by omega),List.getElem?_set_self l1]
  have gB:(M.set 1 (.cells [.int .i64 2] false))[3]? =some (.loop (tK c) kbK):=by rw[List.getElem?_set,if_neg (by omega)];exact gM3
  by_cases c1:l.length>fm f
  · refine⟨_,.inr ⟨by rw[hfb,decide_eq_false (by omega)];rfl,?_,bad⟩⟩
    refine YFn.of h3 (by simp[lkK]) fun l'=> ?_;show W Tryz.prog 31 _ _ (.seq (.region 2 _ _) (.region 3 _ _)) _ ⟨(9,.vsl 0 x (l.map .str))::(8,.int .i64 (f:Int))::tK c,K,[]⟩;refine .vc (by decide) ?_
    repeat'(first|(simp(disch:=first|omega|(simp only[zL];omega))only[go_sem,seval,tK]))
    refine⟨tK c,lkK,h3,rfl,?_⟩;rw[show({lkK with st:=.busy}:cW)=kbK from rfl];show W Tryz.prog 31 _ _ (.block 1 (.seq (.region 4 _ _) _)) _ ⟨_,K.set 3 _,_⟩;rw[←hM0];refine .vc (by decide) ?_
    repeat'(first|(simp(disch:=first|omega|(simp only[zL];omega))only[go_sem,seval,tK,hz,hst0,hln,hst2,lM0])|((with_reducible first|apply aj.pure|apply ar.pure);(with_reducible assumption);(first|rfl|simp only[go_sem])))
    exact⟨tK c,kbK,gB,rfl,rfl⟩
  rw[decide_eq_true (show l.length≤fm f by omega),Bool.true_and]at hfb;cases b2 with
  | false=>
    refine⟨_,.inr ⟨by rw[hfb];rfl,?_,bad⟩⟩;refine YFn.of h3 (by simp[lkK]) fun l'=> ?_;show W Tryz.prog 31 _ _ (.seq (.region 2 _ _) (.region 3 _ _)) _ ⟨(9,.vsl 0 x (l.map .str))::(8,.int .i64 (f:Int))::tK c,K,[]⟩;refine .vc (by decide) ?_
    repeat'(first|(simp(disch:=first|omega|(simp only[zL];omega))only[go_sem,seval,tK]))
    refine⟨tK c,lkK,h3,rfl,?_⟩;rw[show({lkK with st:=.busy}:cW)=kbK from rfl];show W Tryz.prog 31 _ _ (.block 1 (.seq (.region 4 _ _) _)) _ ⟨_,K.set 3 _,_⟩;rw[←hM0];refine .vc (by decide) ?_
    repeat'(first|(simp(disch:=first|omega|(simp only[zL];omega))only[go_sem,seval,tK,hz,hst0,hln,hst2,lM0])|(guard_target=~ aj _ _ _ _ _ _ _;refine aj.aG _ hp2 (hle _) ?_)|((with_reducible first|apply aj.pure|apply ar.pure);(with_reducible assumption);(first|rfl|simp only[go_sem])))
    exact⟨tK c,kbK,gB,rfl,rfl⟩
  | true=>
    cases b3 with
    | false=>
      refine⟨_,.inr ⟨by rw[hfb];rfl,?_,bad⟩⟩;refine YFn.of h3 (by simp[lkK]) fun l'=> ?_;show W Tryz.prog 31 _ _ (.seq (.region 2 _ _) (.region 3 _ _)) _ ⟨(9,.vsl 0 x (l.map .str))::(8,.int .i64 (f:Int))::tK c,K,[]⟩;refine .vc (by decide) ?_
      repeat'(first|(simp(disch:=first|omega|(simp only[zL];omega))only[go_sem,seval,tK]))
      refine⟨tK c,lkK,h3,rfl,?_⟩;rw[show({lkK with st:=.busy}:cW)=kbK from rfl];show W Tryz.prog 31 _ _ (.block 1 (.seq (.region 4 _ _) _)) _ ⟨_,K.set 3 _,_⟩;rw[←hM0];refine .vc (by decide) ?_
      repeat'(first|(simp(disch:=first|omega|(simp only[zL];omega))only[go_sem,seval,tK,hz,hst0,hln,hst2,lM0])|(guard_target=~ aj _ _ _ _ _ _ _;refine aj.aG _ hp2 (hle _) ?_)|((with_reducible first|apply aj.pure|apply ar.pure);(with_reducible assumption);(first|rfl|simp only[go_sem,az])))
      exact⟨tK c,kbK,gB,rfl,rfl⟩
    | true=>
      refine⟨_,.inl ⟨by rw[hfb];rfl,?_,good⟩⟩;refine YFn.of h3 (by simp[lkK]) fun l'=> ?_;show W Tryz.prog 31 _ _ (.seq (.region 2 _ _) (.region 3 _ _)) _ ⟨(9,.vsl 0 x (l.map .str))::(8,.int .i64 (f:Int))::tK c,K,[]⟩;refine .vc (by decide) ?_
      repeat'(first|(simp(disch:=first|omega|(simp only[zL];omega))only[go_sem,seval,tK]))
      refine⟨tK c,lkK,h3,rfl,?_⟩;rw[show({lkK with st:=.busy}:cW)=kbK from rfl];show W Tryz.prog 31 _ _ (.block 1 (.seq (.region 4 _ _) _)) _ ⟨_,K.set 3 _,_⟩;rw[←hM0];refine .vc (by decide) ?_
      repeat'(first|(simp(disch:=first|omega|(simp only[zL];omega))only[go_sem,seval,tK,hz,hst0,hln,lM0])|(guard_target=~ aj _ _ _ _ _ _ _;refine aj.aG _ hp2 (hle _) ?_)|((with_reducible first|apply aj.pure|apply ar.pure);(with_reducible assumption);(first|rfl|simp only[go_sem,az])))
      exact⟨tK c,kbK,gM3,rfl,rfl⟩
/-! ### What is done where a parse gives up -/
theorem Kr:bC Tryz.prog 20=4:=by kernel_rfl
set_option maxRecDepth 8000 in
theorem MD{H:List OB}{a b c:AV}(hok:okH H)(h0:H[0]? =some (.cells [a,b] false))(h1:H[1]? =some (.cells [c] false)):
    gG Tryz.prog 81 [.ptr 0 0,.ptr 1 0] (.pan 112 (.agg [])) H .ret ((H.set 0 (.cells [.str [],.nilsl] false)).set 1 (.cells [.int .i64 250] false)):=by
  have l1:1<H.length:=(List.getElem?_eq_some_iff.1 h1).1;refine gG.rec Tryz.func81 rfl rfl rfl rfl rfl (by simp[Tryz.ntmps81]) (ab enters Tryz.func81 rfl) (by simp[Tryz.ntmps81]) (by simp) ?_;show W Tryz.prog 12 _ none _ _ _;refine .vc (by decide) ?_;have ha:fL Tryz.prog (.iface 112 (.agg [])) 20 112 true=some (.tup [.agg [],.bool true]):=pk Tryz.underlying112 (by intro w h;cases h);have hz:bS Tryz.prog 112=some (.agg []):=by kernel_rfl
  have hb:bW Tryz.prog 24 []=some (.agg [.str [],.nilsl]):=by kernel_rfl
  repeat'(first|(simp(disch:=first|omega|(simp only[zL];omega))only[go_sem,seval,yv Kr,ha,hz,hb,h0,h1,zM]))
  refine⟨rfl,⟨_,rfl⟩,eO ?_⟩;exact eT (eT (hok _ (by simp)) rfl) rfl
set_option maxRecDepth 8000 in
theorem ME{H:List OB}(hok:okH H):gG Tryz.prog 81 [.ptr 0 0,.ptr 1 0] .ret H .ret H:=by
 refine gG.rec Tryz.func81 rfl rfl rfl rfl rfl (by simp[Tryz.ntmps81]) (ab enters Tryz.func81 rfl) (by simp[Tryz.ntmps81]) (Nat.le_refl _) ?_;show W Tryz.prog 12 _ none _ _ _;refine .vc (by decide) ?_
 repeat'(first|(simp(disch:=first|omega|(simp only[zL];omega))only[go_sem,seval,yw Kr]))
 exact⟨rfl,⟨_,rfl⟩,kM hok⟩
def fT:Bytes:=[98,101,103,105,110,58,118,99,97,114,100]
def oH:Bytes:=[101,110,100,58,118,99,97,114,100]
def cd0:Cd:=⟨[],false,[]⟩
def iu(c:Cd)(s:Bytes):Option Cd:=match lnR s with
 |none=>none
 |some l=>if l.n=bP then(if c.ver=[]∧l.g=[]∧l.ps=[]∧version l.v=true then some {c with ver:=l.v}else none)
  else if bU l=true then some {c with ls:=c.ls++[l]}else none
def rO:Cd→List Bytes→Option Cd
 |c,[]=>some c
 |c,s::r=>(iu c s).bind fun d=>rO d r
def pw(s:Bytes):List Bytes:=((cV s).drop 1).take ((cV s).length - 2)
def fo(s:Bytes):Bool:=decide (3≤(cV s).length)&&(ix (unf s) [10]&&((small ((cV s).getD 0 [])==fT)&&(small ((cV s).getD ((cV s).length - 1) [])==oH)))
def bF(s:Bytes):Option Cd:=if fo s=true then(rO cd0 (pw s)).bind (fun c=>if aQ c=0 then some c else none)else none
def bQ(s:Bytes):Cd×Nat:=if s.length>16000 then(cd0,3)else match bF s with|some c=>(c,0)|none=>(cd0,250)
def mU(o:Cd×Nat):Out:=.ret (.tup [bV o.1,.int .i64 o.2])
theorem qn:∀(n:Nat) (s x:Bytes),x∈dT n s→x.length≤s.length
 |0,s,x,h=>by simp[dT]at h
 | n +1,s,x,h=>by
  rw[dT]at h;split at h
  ·simp at h
  ·simp only[List.mem_cons]at h
   rcases h with h|h
   ·have h1:=lZ s 10
    rw[h];split
    ·unfold fQ;split
     ·simp only[List.length_take];omega
     ·exact h1
    ·exact h1
   ·have:=qn n _ x h
    have h2:=kX s 10;omega
theorem qo{s x:Bytes}(h:x∈cV s):x.length≤s.length:=by
 have:=qn _ _ _ h;have:=ib s;omega
theorem jY:∀(n:Nat) (s:Bytes),(dT n s).length≤s.length
 |0,s=>by simp[dT]
 | n+1,s=>by
  rw[dT];split
  ·simp
  ·rename_i h
   have h1:=jY n (ct s 10).2.1;have h2:=nh (c:=10) h;simp only[List.length_cons];omega
theorem oI(s:Bytes):(cV s).length≤s.length:=by
 have h1:=jY ((unf s).length+1) (unf s);have h2:=ib s;unfold cV fg;omega
def dP:List DE:=[.call (.func 81) [.ptr 0 0,.ptr 1 0] []]
def pV(k:Nat)(z:Bool)(L:List Ln):AV:=if z then .sl (2+k) 0 L.length 5 else .nilsl
def pB(ver:Bytes)(v:AV):List OB:=[.cells [.str ver,v] false,.cells [.int .i64 0] false]
theorem rP{k:Nat}{z:Bool}{L:List Ln}(h:z=false→L=[]):deN (pV k z L)=bp 2 0 5 aw k z L:=by
 cases z
 ·rw[h rfl];rfl
 ·rfl
theorem iT{k m:Nat}{z:Bool}{L:List Ln}(h:z=true→2+k<m):(pV k z L).hlt m=true:=by
 cases z
 ·rfl
 ·simp[pV,AV.hlt,h rfl]
theorem ep(m:Nat)(l:Ln):AV.bf m (aw l).cells=true:=by simp[aw,AV.cells,AV.bf,AV.hlt,eP]
theorem vH{ver:Bytes}{v:AV}{m:Nat}(hv:v.hlt m=true):(pB ver v).all (OB.hlt m)=true:=by
 simp[pB,OB.hlt,AV.bf,AV.hlt,hv]
theorem Ks{ver:Bytes}{k j:Nat}{z:Bool}{L:List Ln}:okH (mem (pB ver (pV k z L)) aw k j z L):=fun m hm=>by
 refine wR (vH (iT fun hz=>?_)) (ep m);rw[aJ,hz]at hm;simp[pB]at hm;omega
theorem Kt{T:List (Nat×AV)}{H:List OB}{a b c:AV}(hok:okH H)(h0:H[0]? =some (.cells [a,b] false))(h1:H[1]? =some (.cells [c] false))(t2:Av.get T 2=.ptr 0 0)(t3:Av.get T 3=.ptr 1 0):
    lvQ Tryz.prog (sV Tryz.prog Tryz.f41.results.toList (mU (cd0,250))) (.panic 112 (.agg [])) ⟨T,H,dP⟩:=by
  have l1:1<H.length:=(List.getElem?_eq_some_iff.1 h1).1;refine⟨.ret,_,MD hok h0 h1,vj 2 24 3 31 rfl (v1:=.agg [.str [],.nilsl]) (v2:=.int .i64 250) ?_ ?_ ?_⟩
  · simp only[t2]
    rw[va];simp only[ldG];rw[List.getElem?_set_ne (by decide),List.getElem?_set_self (by omega)];rfl
  · simp only[t3]
    rw[GB];simp only[ldC];rw[List.getElem?_set_self (by rw[List.length_set];omega)];rfl
  · exact⟨gn (k:=17) (ts:=[.str [],.vsl 5 false []]) (cM rfl ⟨⟨_,rfl,.nils _ _⟩,trivial⟩),cM rfl trivial⟩
set_option maxRecDepth 8000 in
theorem H4(s:Bytes)(hs:s.length≤1000000):ad Tryz.prog 41 [.str s] (mU (bQ s)):=by
 refine ad.ofD Tryz.func41 rfl (ab enters Tryz.func41 rfl) (by simp[Tryz.ntmps41]) ?_;show W Tryz.prog 94 0 none _ _ _;refine .seq (.vc (by decide) ?_)
 repeat'(first|(simp(disch:=first|omega|(simp only[zL];omega))only[go_sem,seval]))
 by_cases q0:s.length>16000
 ·have e:bQ s=(cd0,3):=by simp only[bQ,if_pos q0]
  rw[e];refine .vc (by decide) ?_
  repeat'(first|(simp(disch:=first|omega|(simp only[zL];omega))only[go_sem,seval]))
  refine vj 2 24 3 31 rfl (v1:=.agg [.str [],.nilsl]) (v2:=.int .i64 3) ?_ ?_ ?_
  ·simp(disch:=first|omega|(simp only[zL];omega))only[go_sem,seval]
  ·simp(disch:=first|omega|(simp only[zL];omega))only[go_sem,seval]
  ·exact⟨gn (k:=17) (ts:=[.str [],.vsl 5 false []]) (cM rfl ⟨⟨_,rfl,.nils _ _⟩,trivial⟩),cM rfl trivial⟩
 refine .seq (.vc (by decide) ?_)
 repeat'(first|(simp(disch:=first|omega|(simp only[zL];omega))only[go_sem,seval]))
 refine .seq (W.uW [_] _ _ [] rfl rfl rfl rfl (by decide) ?_);simp only[al,gdA,ae,aa,ah,an,evalOp,St.ev,Av.get,St.put,ai,Nat.reduceEqDiff,↓reduceIte,List.map_cons,List.map_nil,List.append_nil,lK,jf];refine⟨_,rfl,?_⟩;have hun:=EG s hs;have huf:=ob s hs;have hull:=ib s;have hsf:=Be (unf s) [10] (by omega);obtain⟨all,hall⟩:∃all,all=cV s:=⟨_,rfl⟩
 have hal:all.length≤1000000:=by have:=oI s;rw[←hall]at this;omega
 have hae:∀x∈all,x.length≤1000000:=by intro x hx;rw[hall]at hx;have:=qo hx;omega
 rw[←hall]at hun;have hok0:okH [.cells [.str [],.nilsl] false,.cells [.int .i64 0] false]:=fun m _=>rfl;have bad:∀T,Av.get T 2=.ptr 0 0→Av.get T 3=.ptr 1 0→bF s=none→lvQ Tryz.prog (sV Tryz.prog Tryz.f41.results.toList (mU (bQ s))) (.panic 112 (.agg [])) ⟨T,[.cells [.str [],.nilsl] false,.cells [.int .i64 0] false],dP⟩:=by
  intro T h2 h3 hn;have e:bQ s=(cd0,250):=by simp only[bQ,if_neg q0,hn]
  rw[e];exact Kt hok0 rfl rfl h2 h3
 have hnot:fo s=false→bF s=none:=fun h=>by simp[bF,h]
 by_cases q1:3≤all.length
 case neg=>
  refine .vc (by decide) ?_
  repeat'(first|(simp(disch:=first|omega|(simp only[zL];omega))only[go_sem,seval])|((with_reducible first|apply aj.pure|apply ar.pure);(with_reducible exact hun);(first|rfl|simp only[go_sem,az])))
  refine aj.pan eZ rfl (bad _ (by rfl) (by rfl) (hnot ?_));simp[fo,←hall,q1]
 by_cases q2:ix (unf s) [10]=true
 case neg=>
  have q2:ix (unf s) [10]=false:=by simpa using q2
  rw[q2]at hsf;refine .vc (by decide) ?_
  repeat'(first|(simp(disch:=first|omega|(simp only[zL];omega))only[go_sem,seval])|((with_reducible first|apply aj.pure|apply ar.pure);(with_reducible assumption);(first|rfl|simp only[go_sem,az])))
  refine aj.pan eZ rfl (bad _ (by rfl) (by rfl) (hnot ?_));simp[fo,q2]
 rw[q2]at hsf;have hne:all≠ []:=by intro h;rw[h]at q1;simp at q1
 obtain⟨a0,ha0⟩:∃a0,all[0]? =some a0:=⟨_,List.getElem?_eq_getElem (by omega)⟩
 obtain⟨a1,ha1⟩:∃a1,all[all.length - 1]? =some a1:=⟨_,List.getElem?_eq_getElem (by omega)⟩
 have hd0:all.getD 0 []=a0:=by simp[List.getD,ha0]
 have hd1:all.getD (all.length - 1) []=a1:=by simp[List.getD,ha1]
 have hi0:∀H,ak Tryz.prog 25 (.vsl 0 false (all.map .str)) (.int .i64 0) H=some (.vptr [.str a0]):=fun H=>eJ (n:=0) (v:=.str a0) (by simp[ha0]) rfl H;have hi1:∀H,ak Tryz.prog 25 (.vsl 0 false (all.map .str)) (.int .i64 ((all.length:Int) - 1)) H=some (.vptr [.str a1]):=by
  intro H;have:((all.length:Int) - 1)=((all.length - 1:Nat):Int):=by omega
  rw[this];exact eJ (v:=.str a1) (by simp[ha1]) rfl H
 have hs0:=ic a0;have hs1:=ic a1;by_cases q3:small a0=fT
 case neg=>
  have e3:(small a0==fT)=false:=by simpa using q3
  have e3q:=e3;simp only[fT]at e3;refine .vc (by decide) ?_
  repeat'(first|(simp(disch:=first|omega|(simp only[zL];omega))only[go_sem,seval,hi0,e3])|((with_reducible first|apply aj.pure|apply ar.pure);(with_reducible assumption);(first|rfl|simp only[go_sem,az])))
  refine aj.pan eZ rfl (bad _ (by rfl) (by rfl) (hnot ?_));simp only[fo,←hall,hd0,e3q,Bool.false_and,Bool.and_false]
 have e3:(small a0==fT)=true:=by simp[q3]
 have e3q:=e3;simp only[fT]at e3;by_cases q4:small a1=oH
 case neg=>
  have e4:(small a1==oH)=false:=by simpa using q4
  have e4q:=e4;simp only[oH]at e4;refine .vc (by decide) ?_
  repeat'(first|(simp(disch:=first|omega|(simp only[zL];omega))only[go_sem,seval,hi0,hi1,e3,e4])|((with_reducible first|apply aj.pure|apply ar.pure);(with_reducible assumption);(first|rfl|simp only[go_sem,az])))
  refine aj.pan eZ rfl (bad _ (by rfl) (by rfl) (hnot ?_));simp only[fo,←hall,hd1,e4q,Bool.false_and,Bool.and_false]
 have e4:(small a1==oH)=true:=by simp[q4]
 have hhead:fo s=true:=by
  simp only[fo,←hall,hd0,hd1,e3q,e4,q2,Bool.and_true,decide_eq_true_eq];exact q1
 simp only[oH]at e4;obtain⟨mid,hmid⟩:∃mid,mid=pw s:=⟨_,rfl⟩
 have hml:mid.length=all.length - 2:=by rw[hmid,pw,←hall];simp;omega
 have hsl:aM Tryz.prog 25 (.vsl 0 false (all.map .str)) (some (.int .i64 1)) (some (.int .i64 ((all.length:Int) - 1))) none=some (.vsl 0 false (mid.map .str)):=by
  have h1:idx (.int .i64 1)=some 1:=rfl;have h2:idx (.int .i64 ((all.length:Int) - 1))=some (all.length - 1):=by simp[idx];omega
  simp only[aM,Tryz.underlying25,iw,h1,h2,List.length_map,Option.map_some];rw[if_pos (by omega)];rw[hmid,pw,←hall,List.map_take,List.map_drop];congr 2
 have hpm:bF s=(rO cd0 mid).bind (fun c=>if aQ c=0 then some c else none):=by simp only[bF,hhead,if_true,hmid]
 have hme:∀x∈mid,x.length≤1000000:=by
  intro x hx;refine hae x ?_;rw[hmid,pw,←hall]at hx;exact List.mem_of_mem_drop (List.mem_of_mem_take hx)
 refine .vc (by decide) ?_
 repeat'(first|(simp(disch:=first|omega|(simp only[zL];omega))only[go_sem,seval,hi0,hi1,e3,e4,hsl])|((with_reducible first|apply aj.pure|apply ar.pure);(with_reducible first|exact hun|exact huf|exact hsf|exact hs0|exact hs1|exact jE);(first|rfl|simp only[go_sem,az])))
 refine W.JH dP (X:=Nat×Cd×Nat×Nat×Bool) (fun x=>[(47,.int .i64 (x.1:Int)),(46,.int .i64 (mid.length:Int)),(45,.vsl 0 false (mid.map .str)),(2,.ptr 0 0),(3,.ptr 1 0)])
  (fun x=>mem (pB x.2.1.ver (pV x.2.2.1 x.2.2.2.2 x.2.1.ls)) aw x.2.2.1 x.2.2.2.1 x.2.2.2.2 x.2.1.ls)
  (fun x=>x.1≤mid.length∧rO x.2.1 (mid.drop x.1)=rO cd0 mid∧(x.2.2.2.2=false→x.2.1.ls=[])∧x.2.1.ls.length≤x.1∧x.2.1.x=false)
  (fun x=>mid.length - x.1) (0,cd0,0,0,false) (fun _=>Nat.zero_le _) ?_ rfl ⟨Nat.zero_le _,rfl,fun _=>rfl,Nat.le_refl _,rfl⟩ ?_ ?_ ?_ ?_
 ·intro x
  have:2≤(mem (pB x.2.1.ver (pV x.2.2.1 x.2.2.2.2 x.2.1.ls)) aw x.2.2.1 x.2.2.2.1 x.2.2.2.2 x.2.1.ls).length:=by rw[aJ];simp[pB];omega
  simp only[dP,List.all_cons,List.all_nil,DE.hlt,AV.bf,AV.hlt,Bool.and_true,Bool.and_eq_true,decide_eq_true_eq];omega
 ·simp only[bz,Av.get,Nat.reduceEqDiff,↓reduceIte,bg,dk,dm,and_self,true_and,and_true,List.length_map,List.length_nil]
 ·have hfs:AV.bf (mem (pB cd0.ver (pV 0 false cd0.ls)) aw 0 0 false cd0.ls).length (mid.map .str)=true:=bH _ _
  have:2≤(mem (pB cd0.ver (pV 0 false cd0.ls)) aw 0 0 false cd0.ls).length:=by rw[aJ];simp[pB]
  simp only[cm,AV.hlt,hfs,Bool.and_true,Bool.true_and,Bool.and_eq_true,decide_eq_true_eq];omega
 ·simp[mem,pB,pV,cd0,bm,OB.hlt,AV.bf,AV.hlt]
 rintro⟨i,⟨ver,cx,ls⟩,k,j,z⟩ ⟨l1,l2,l3,l4,l5⟩;simp only at l1 l2 l3 l4 l5 ⊢;subst l5;obtain⟨v,hv⟩:∃v,v=pV k z ls:=⟨_,rfl⟩
 obtain⟨M,hM⟩:∃M,M=mem (pB ver (pV k z ls)) aw k j z ls:=⟨_,rfl⟩
 have hok:okH M:=by rw[hM];exact Ks
 have hM0:M[0]? =some (.cells [.str ver,v] false):=by rw[hM,dw (by simp[pB]),hv];rfl
 have hM1:M[1]? =some (.cells [.int .i64 0] false):=by rw[hM,dw (by simp[pB])];rfl
 have hMl:2≤M.length:=by rw[hM,aJ];simp[pB];omega
 have hvI:v=.nilsl∨∃a b,v=.sl a 0 b 5:=by rw[hv];cases z<;>simp[pV]
 have hvC:v.isC=true:=by rcases hvI with h|⟨a,b,h⟩<;>rw[h]<;>rfl
 have hv1:v.cells=[v]:=by rcases hvI with h|⟨a,b,h⟩<;>rw[h]<;>rfl
 have hhl:∀(y:Nat×Cd×Nat×Nat×Bool),cm (mem (pB y.2.1.ver (pV y.2.2.1 y.2.2.2.2 y.2.1.ls)) aw y.2.2.1 y.2.2.2.1 y.2.2.2.2 y.2.1.ls).length [(47,.int .i64 (y.1:Int)),(46,.int .i64 (mid.length:Int)),(45,.vsl 0 false (mid.map .str)),(2,.ptr 0 0),(3,.ptr 1 0)]=true:=by
  intro y;have hfs:AV.bf (mem (pB y.2.1.ver (pV y.2.2.1 y.2.2.2.2 y.2.1.ls)) aw y.2.2.1 y.2.2.2.1 y.2.2.2.2 y.2.1.ls).length (mid.map .str)=true:=bH _ _;have:2≤(mem (pB y.2.1.ver (pV y.2.2.1 y.2.2.2.2 y.2.1.ls)) aw y.2.2.1 y.2.2.2.1 y.2.2.2.2 y.2.1.ls).length:=by rw[aJ];simp[pB];omega
  simp only[cm,AV.hlt,hfs,Bool.and_true,Bool.true_and,Bool.and_eq_true,decide_eq_true_eq];omega
 have hfzv:∀c0 c1,∃u,fz ((M.set 0 c0).set 1 c1) 18 v=some u∧Le u (.vsl 5 false (ls.map aw)):=by
  intro c0 c1;cases z with
  |false=>rw[hv,l3 rfl];exact⟨_,rfl,.nils _ _⟩
  |true=>
   rw[hv];refine hG (n:=4) (k:=17) (by decide) (fun x=>⟨[.str x.g,.str x.n,.vsl 3 x.x (x.ps.map aD),.str x.v],rfl,rfl⟩) (fun x=>by simp[aw,AV.cells,AV.hfs,AV.hf,aB]) (.inr ⟨2+k,rfl,?_⟩);rw[List.getElem?_set_ne (by omega),List.getElem?_set_ne (by omega),hM];exact dR (B:=pB ver (pV k true ls))
 have hfzw:∀c0 c1,∃u,fz ((M.set 0 c0).set 1 c1) 19 v=some u∧Le u (.vsl 5 false (ls.map aw)):=by
  intro c0 c1;cases z with
  |false=>rw[hv,l3 rfl];exact⟨_,rfl,.nils _ _⟩
  |true=>
   rw[hv];refine hG (n:=4) (k:=18) (by decide) (fun x=>⟨[.str x.g,.str x.n,.vsl 3 x.x (x.ps.map aD),.str x.v],rfl,rfl⟩) (fun x=>by simp[aw,AV.cells,AV.hfs,AV.hf,aB]) (.inr ⟨2+k,rfl,?_⟩);rw[List.getElem?_set_ne (by omega),List.getElem?_set_ne (by omega),hM];exact dR (B:=pB ver (pV k true ls))
 rw[←hM];have pend:∀T E,(∀m,M.length+E.length≤m→E.all (OB.hlt m)=true)→bF s=none→Av.get T 2=.ptr 0 0→Av.get T 3=.ptr 1 0→lvQ Tryz.prog (sV Tryz.prog Tryz.f41.results.toList (mU (bQ s))) (.panic 112 (.agg [])) ⟨T,M++E,dP⟩:=by
  intro T E hE hn h2 h3;have e:bQ s=(cd0,250):=by simp only[bQ,if_neg q0,hn]
  rw[e];exact Kt (ru hok hE) (aZ hM0) (aZ hM1) h2 h3
 have pend0:∀T,bF s=none→Av.get T 2=.ptr 0 0→Av.get T 3=.ptr 1 0→lvQ Tryz.prog (sV Tryz.prog Tryz.f41.results.toList (mU (bQ s))) (.panic 112 (.agg [])) ⟨T,M,dP⟩:=by
  intro T hn h2 h3;have:=pend T [] (fun _ _=>rfl) hn h2 h3;rwa[List.append_nil]at this
 by_cases h:i<mid.length
 ·obtain⟨u,hu,hdrop⟩:=drop_at h
  have hul:=hme u (List.mem_of_getElem? hu);have hl:=HT u hul;have hia:∀H,ak Tryz.prog 25 (.vsl 0 false (mid.map .str)) (.int .i64 (i:Int)) H=some (.vptr [.str u]):=fun H=>eJ (v:=.str u) (by simp[hu]) rfl H;rw[hdrop,rO]at l2;refine .vc (by decide) ?_;cases hln:lnR u with
  |none=>
   have hn:bF s=none:=by rw[hpm,←l2];simp[iu,hln]
   rw[hln]at hl;simp only[xm,qh]at hl
   repeat'(first|(simp(disch:=first|omega|(simp only[zL];omega))only[go_sem,seval,hia,hM0,hM1,zM])|(guard_target=~ aj _ _ _ _ _ _ _;refine aj.pan hl rfl ?_))
   exact pend0 _ hn rfl rfl
  | some l=>
   obtain⟨lg,ln,lx,lps,lv⟩:=l;rw[hln]at hl;simp only[xm,aw]at hl;have hE:∀m,M.length+[OB.cells [.str lg,.str ln,.vsl 3 lx (lps.map aD),.str lv] false].length≤m→[OB.cells [.str lg,.str ln,.vsl 3 lx (lps.map aD),.str lv] false].all (OB.hlt m)=true:=by
    intro m _;simp[OB.hlt,AV.bf,AV.hlt,eP]
   have hEm:∀m,OB.hlt m (OB.cells [.str lg,.str ln,.vsl 3 lx (lps.map aD),.str lv] false)=true:=by
    intro m;simp[OB.hlt,AV.bf,AV.hlt,eP]
   by_cases qv:ln=bP
   ·have ev:(ln==bP)=true:=by simp[qv]
    simp only[bP]at ev;by_cases c1:ver=[]
    case neg=>
     have e1:(ver==[])=false:=by simp[c1]
     have hn:bF s=none:=by rw[hpm,←l2];simp[iu,hln,qv,c1]
     repeat'(first|(simp(disch:=first|omega|(simp only[zL];omega))only[go_sem,seval,hia,hM0,hM1,ev,e1,zM])|((with_reducible first|apply aj.pure|apply ar.pure);(with_reducible exact hl);(first|rfl|simp only[go_sem])))
     refine aj.pan eZ rfl (pend _ _ hE hn rfl rfl)
    have e1:(ver==[])=true:=by simp[c1]
    by_cases c2:lg=[]
    case neg=>
     have e2:(lg==[])=false:=by simp[c2]
     have hn:bF s=none:=by rw[hpm,←l2];simp[iu,hln,qv,c2]
     repeat'(first|(simp(disch:=first|omega|(simp only[zL];omega))only[go_sem,seval,hia,hM0,hM1,ev,e1,e2,zM])|((with_reducible first|apply aj.pure|apply ar.pure);(with_reducible exact hl);(first|rfl|simp only[go_sem])))
     refine aj.pan eZ rfl (pend _ _ hE hn rfl rfl)
    have e2:(lg==[])=true:=by simp[c2]
    by_cases c3:lps.length=0
    case neg=>
     have hn:bF s=none:=by
      have:lps≠ []:=by intro h;rw[h]at c3;simp at c3
      rw[hpm,←l2];simp[iu,hln,qv,this]
     repeat'(first|(simp(disch:=first|omega|(simp only[zL];omega))only[go_sem,seval,hia,hM0,hM1,ev,e1,e2,zM])|((with_reducible first|apply aj.pure|apply ar.pure);(with_reducible exact hl);(first|rfl|simp only[go_sem])))
     refine aj.pan eZ rfl (pend _ _ hE hn rfl rfl)
    have c3':lps=[]:=List.length_eq_zero_iff.1 c3;have hver:=tv lv;by_cases c4:version lv=true
    case neg=>
     have c4:version lv=false:=by simpa using c4
     rw[c4]at hver;have hn:bF s=none:=by rw[hpm,←l2];simp[iu,hln,qv,c4]
     repeat'(first|(simp(disch:=first|omega|(simp only[zL];omega))only[go_sem,seval,hia,hM0,hM1,ev,e1,e2,zM])|((with_reducible first|apply aj.pure|apply ar.pure);(with_reducible assumption);(first|rfl|simp only[go_sem])))
     refine aj.pan eZ rfl (pend _ _ hE hn rfl rfl)
    rw[c4]at hver;have hst:iu ⟨ver,false,ls⟩ u=some ⟨lv,false,ls⟩:=by simp[iu,hln,qv,c1,c2,c3',c4]
    rw[hst,Option.bind_some]at l2
    repeat'(first|(simp(disch:=first|omega|(simp only[zL];omega))only[go_sem,seval,hia,hM0,hM1,ev,e1,e2,zM])|((with_reducible first|apply aj.pure|apply ar.pure);(with_reducible first|exact hl|exact hver|exact jE);(first|rfl|simp only[go_sem])))
    refine⟨(i+1,⟨lv,false,ls⟩,(if z then k else k+1),j+1,z),⟨h,l2,l3,by simp only;omega,rfl⟩,by simp only;omega,?_,hhl _,?_⟩
    ·simp only[bz,Av.get,Nat.reduceEqDiff,↓reduceIte,bg,dk,dm,and_self,true_and,and_true,List.length_map,List.length_nil]
    ·have hvz:pV (if z then k else k+1) z ls=v:=by rw[hv];cases z<;>rfl
     simp only[hvz]
     have:=nV (B:=pB lv v) (f:=aw) (k:=k) (j:=j) (z:=z) (L:=ls) (E:=[.cells [.str lg,.str ln,.vsl 3 lx (lps.map aD),.str lv] false]) (m:=(mem (pB lv v) aw (if z then k else k+1) (j+1) z ls).length) (vH (by
      rw[hv];refine iT fun hz=>?_
      rw[aJ,hz];simp[pB])) (ep _)
     have e:M.set 0 (.cells [.str lv,v] false)=mem (pB lv v) aw k j z ls:=by rw[hM,mem_set (by simp[pB]),←hv];rfl
     rw[e];exact this
   ·have ev:(ln==bP)=false:=by simpa using qv
    simp only[bP]at ev;have hlv:=F6 ⟨lg,ln,lx,lps,lv⟩;simp only[aw]at hlv;by_cases c1:bU ⟨lg,ln,lx,lps,lv⟩=true
    case neg=>
     have c1:bU ⟨lg,ln,lx,lps,lv⟩=false:=by simpa using c1
     rw[c1]at hlv;have hn:bF s=none:=by rw[hpm,←l2];simp[iu,hln,qv,c1]
     repeat'(first|(simp(disch:=first|omega|(simp only[zL];omega))only[go_sem,seval,hia,hM0,hM1,ev,zM])|((with_reducible first|apply aj.pure|apply ar.pure);(with_reducible assumption);(first|rfl|simp only[go_sem,aB])))
     refine aj.pan eZ rfl (pend _ _ hE hn rfl rfl)
    rw[c1]at hlv;have hst:iu ⟨ver,false,ls⟩ u=some ⟨ver,false,ls++[⟨lg,ln,lx,lps,lv⟩]⟩:=by simp[iu,hln,qv,c1]
    rw[hst,Option.bind_some]at l2;have hbs:au Tryz.prog 22 1 [(0,.agg [.str lg,.str ln,.vsl 3 lx (lps.map aD),.str lv])]=some (.vsl 5 true [aw ⟨lg,ln,lx,lps,lv⟩]):=by
     simp[au,Tryz.underlying22,yn,AV.cells,AV.told,List.range',aw]
    obtain⟨M',ha1,ha2,ha3,ha4,ha5⟩:=jn (wd:=5) (bytes:=72) Tryz.underlying22 yn aw (fun _=>rfl) (fun _=>rfl) (by decide) (pB ver (pV k z ls)) k j z ls (w0:=0) (fun hz=>.inr (l3 hz)) [.cells [.str lg,.str ln,.vsl 3 lx (lps.map aD),.str lv] false] ⟨lg,ln,lx,lps,lv⟩ true (by omega) hM;have hBl:(pB ver (pV k z ls)).length=2:=rfl;obtain⟨k',hk'⟩:∃k',k'=M.length+[OB.cells [.str lg,.str ln,.vsl 3 lx (lps.map aD),.str lv] false].length - 2:=⟨_,rfl⟩
    rw[hBl,←hk']at ha4;rw[hBl,←rP l3,←hv,←hk']at ha1;have hvN:bp 2 0 5 aw k' true (ls++[⟨lg,ln,lx,lps,lv⟩])=.sl (2+k') 0 (ls++[(⟨lg,ln,lx,lps,lv⟩:Ln)]).length 5:=rfl;rw[hvN]at ha1;have hM'0:M'[0]? =some (.cells [.str ver,v] false):=by rw[ha5 0 (by simp[pB]),hv];rfl
    have hvd:deN v=bp 2 0 5 aw k z ls:=by rw[hv];exact rP l3
    repeat'(first|(simp(disch:=first|omega|(simp only[zL];omega))only[go_sem,seval,hia,hM0,hM1,hM'0,ev,hbs,ha1,zM])|((with_reducible first|apply aj.pure|apply ar.pure);(with_reducible first|exact hl|exact hlv|exact jE);(first|rfl|simp only[go_sem,aB])))
    refine⟨(i+1,⟨ver,false,ls++[⟨lg,ln,lx,lps,lv⟩]⟩,k',0,true),⟨h,l2,(fun hh=>by cases hh),by simp only[List.length_append,List.length_cons,List.length_nil];omega,rfl⟩,by simp only;omega,?_,hhl _,?_⟩
    ·simp only[bz,Av.get,Nat.reduceEqDiff,↓reduceIte,bg,dk,dm,and_self,true_and,and_true,List.length_map,List.length_nil]
    ·have h4:=ha4 (mem (pB ver (pV k' true (ls++[⟨lg,ln,lx,lps,lv⟩]))) aw k' 0 true (ls++[⟨lg,ln,lx,lps,lv⟩])).length (vH (iT fun hz=>?_)) (ep _)
     ·have h5:=gK (b:=.cells [.str ver,pV k' true (ls++[⟨lg,ln,lx,lps,lv⟩])] false) (i:=0) ?_ h4
      ·rw[mem_set (by simp[pB])]at h5
       have e:(pB ver (pV k z ls)).set 0 (.cells [.str ver,pV k' true (ls++[⟨lg,ln,lx,lps,lv⟩])] false)=pB ver (pV k' true (ls++[⟨lg,ln,lx,lps,lv⟩])):=rfl;rw[e]at h5;simpa[pV]using h5
      ·have:(pV k' true (ls++[(⟨lg,ln,lx,lps,lv⟩:Ln)])).hlt (mem (pB ver (pV k' true (ls++[⟨lg,ln,lx,lps,lv⟩]))) aw k' 0 true (ls++[⟨lg,ln,lx,lps,lv⟩])).length=true:=iT fun _=>by rw[aJ];simp[pB]
       simp[OB.hlt,AV.bf,AV.hlt,this]
     ·rw[aJ,hk']
      rw[hM,aJ,hz];simp[pB];omega
 ·have hie:i=mid.length:=by omega
  subst hie;rw[List.drop_length,rO]at l2;obtain⟨u,hu,hle⟩:=hfzw (.cells [.str ver,v] false) (.cells [.int .i64 0] false);have hM00:(M.set 0 (.cells [.str ver,v] false)).set 1 (.cells [.int .i64 0] false)=M:=by rw[dJ hM0,dJ hM1]
  rw[hM00]at hu;obtain⟨cc,hcc⟩:∃cc,cc=aQ ⟨ver,false,ls⟩:=⟨_,rfl⟩
  have hck:ad Tryz.prog 24 [.agg [.str ver,u]] (.ret (.int .i64 cc)):=by
   rw[hcc];exact ad.le (.cons _ _ _ _ (.agg _ _ (.cons _ _ _ _ (.refl _) (.cons _ _ _ _ hle .nil))) .nil) (rG ⟨ver,false,ls⟩)
  have hln:aG M [.agg [.str ver,v]] (.ret (.int .i64 cc))=some [.agg [.str ver,u]]:=by
   have h1:fz M 20 (.agg [.str ver,v])=some (.agg [.str ver,u]):=jN (k:=18) (by simp only[List.mapM_cons,List.mapM_nil,hu];rfl);exact wU (by simp only[List.mapM_cons,List.mapM_nil,h1];rfl) rfl
  refine .vc (by decide) ?_;by_cases c0:cc=0
  ·rw[c0]at hck hln
   have hn:bQ s=(⟨ver,false,ls⟩,0):=by
    have:bF s=some ⟨ver,false,ls⟩:=by rw[hpm,←l2,Option.bind_some,←hcc,if_pos c0]
    simp only[bQ,if_neg q0,this]
   rw[hn];rcases hvI with hvI|⟨a,b,hvI⟩
   all_goals
    rw[hvI]at hM0 hln hM00
    repeat'(first|(simp(disch:=first|omega|(simp only[zL];omega))only[go_sem,seval,hM0,hM1,zM])|(guard_target=~ aj _ _ _ _ _ _ _;refine aj.aG _ hck hln ?_)|((with_reducible first|apply aj.pure|apply ar.pure);(with_reducible exact jE);(first|rfl|simp only[go_sem])))
    refine⟨.ret,_,ME (by rw[hM00];exact hok),vj 2 24 3 31 rfl (v1:=.agg [.str ver,v]) (v2:=.int .i64 0) ?_ ?_ ⟨gn (k:=17) (ts:=[.str ver,.vsl 5 false (ls.map aw)]) (cM rfl (⟨hfzv _ _,trivial⟩:LzL _ 18 [v] [.vsl 5 false (ls.map aw)])),cM rfl trivial⟩⟩
    ·rw[hvI];simp(disch:=first|omega|(simp only[zL];omega))only[go_sem,seval,zM]
    ·simp(disch:=first|omega|(simp only[zL];omega))only[go_sem,seval,zM]
  ·have hn:bF s=none:=by rw[hpm,←l2,Option.bind_some,←hcc,if_neg c0]
   repeat'(first|(simp(disch:=first|omega|(simp only[zL];omega))only[go_sem,seval,hM0,hM1,zM])|(guard_target=~ aj _ _ _ _ _ _ _;refine aj.aG _ hck hln ?_))
   refine aj.pan eZ rfl (pend0 _ hn rfl rfl)
theorem rQ{α:Type}{l:List α}{p:α→Bool}{i:Nat}{x:α}(h:l[i]? =some x)(hp:p x=false):l.all p=false:=by
 cases hc:l.all p with
 |false=>rfl
 |true=>have:=List.all_eq_true.1 hc x (List.mem_of_getElem? h);rw[hp]at this;cases this
theorem all_succ{α:Type}{l:List α}{p:α→Bool}{i:Nat}{x:α}(h:l[i]? =some x)(ha:(l.take i).all p=true)(hp:p x=true):(l.take (i+1)).all p=true:=by
 rw[List.take_add_one,h,List.all_append,ha];simp[hp]
/-! ### Names -/
noncomputable def xt:Array Oper:=match Tryz.f129.body with
 |some (.seq _ (.seq (.region _ ops _) _))=>ops
 |_=>#[]
theorem rR:fits 29 xt=true:=by kernel_rfl
theorem xu(j:Nat)(hj:j<27):(xt[j]?).bind (fun x=>x.dst)=if j<26 then some (j+3)else some 2:=by
 have:(List.range 27).all (fun j=>decide ((xt[j]?).bind (fun x=>x.dst)=if j<26 then some (j+3)else some 2))=true:=by kernel_rfl
 exact of_decide_eq_true (List.all_eq_true.1 this j (List.mem_range.2 hj))
set_option maxRecDepth 8000 in
theorem xv(x:Int):ad Tryz.prog 129 [.int .u8 x] (.ret (.bool (nmI x))):=by
 refine ad.of Tryz.func129 rfl (ab enters Tryz.func129 rfl) (by simp[Tryz.ntmps129]) ?_;show W Tryz.prog 29 0 none _ _ _;unfold nmI;generalize h1:decide (x≥97)=b1;generalize h2:decide (x≤122)=b2;generalize h3:decide (x≥65)=b3;generalize h4:decide (x≤90)=b4;generalize h5:decide (x≥48)=b5;generalize h6:decide (x≤57)=b6;generalize h7:(x==45)=b7;refine .seq (.region [] (by decide) ?_);simp only[al,gdA,ae,aa,ah,an,evalOp,St.ev,St.put,aL,ofV,ai];refine .seq (RW.start (ops0:=xt) rfl ?_);refine RW.cut 7 [(0,.int .u8 x),(9,.bool (b1&&b2))] [] rR ?_ ?_
 ·cases b1<;>cases b2<;>simp only[al,gdA,ae,aa,ah,an,evalOp,St.ev,Av.get,St.put,ofV,ai,Nat.reduceEqDiff,↓reduceIte,Bool.and_self,beq_true,Bool.false_eq_true,aU,cond_true,List.take_succ_cons,List.take_zero,xu,Nat.reduceLT,cB,ec,cZ,h1,h2]<;>exact⟨⟨rfl,rfl,trivial⟩,trivial,trivial⟩
 generalize(b1&&b2)=c1;simp only[List.drop_succ_cons,List.drop_zero];refine RW.cut 8 [(0,.int .u8 x),(17,.bool (c1||b3&&b4))] [] rR ?_ ?_
 ·cases c1<;>cases b3<;>cases b4<;>simp only[al,gdA,ae,aa,ah,an,evalOp,St.ev,Av.get,St.put,ofV,ai,Nat.reduceEqDiff,↓reduceIte,Bool.and_self,beq_false,beq_true,Bool.not_true,Bool.not_false,Bool.false_eq_true,aU,cond_true,cond_false,List.take_succ_cons,List.take_zero,xu,Nat.reduceLT,cB,ec,cZ,h3,h4]<;>exact⟨⟨rfl,rfl,trivial⟩,trivial,trivial⟩
 generalize(c1||b3&&b4)=c2;simp only[List.drop_succ_cons,List.drop_zero];refine RW.cut 8 [(0,.int .u8 x),(25,.bool (c2||b5&&b6))] [] rR ?_ ?_
 ·cases c2<;>cases b5<;>cases b6<;>simp only[al,gdA,ae,aa,ah,an,evalOp,St.ev,Av.get,St.put,ofV,ai,Nat.reduceEqDiff,↓reduceIte,Bool.and_self,beq_false,beq_true,Bool.not_true,Bool.not_false,Bool.false_eq_true,aU,cond_true,cond_false,List.take_succ_cons,List.take_zero,xu,Nat.reduceLT,cB,ec,cZ,h5,h6]<;>exact⟨⟨rfl,rfl,trivial⟩,trivial,trivial⟩
 generalize(c2||b5&&b6)=c3;simp only[List.drop_succ_cons,List.drop_zero];refine RW.cut 4 [(2,.bool (c3||b7))] [] rR ?_ ?_
 ·cases c3<;>cases b7<;>simp only[al,gdA,ae,aa,ah,an,evalOp,St.ev,Av.get,St.put,ofV,ai,Nat.reduceEqDiff,↓reduceIte,beq_false,Bool.not_true,Bool.not_false,aU,cond_false,List.take_succ_cons,List.take_zero,xu,Nat.reduceLT,dv,cZ,h7]<;>exact⟨⟨rfl,trivial⟩,trivial,trivial⟩
 simp only[List.drop_succ_cons,List.drop_zero];refine RW.done ?_;exact .ret ⟨_,rfl,_,rfl,.refl _⟩
set_option maxRecDepth 8000 in
theorem vI(s:Bytes)(hs:s.length≤1000000):ad Tryz.prog 147 [.str s] (.ret (.str (ef s))):=by
 refine ad.of Tryz.func147 rfl (ab enters Tryz.func147 rfl) (by simp[Tryz.ntmps147]) ?_;show W Tryz.prog 29 0 none _ _ _;refine W.vc (by decide) ?_
 repeat'(first|(simp(disch:=first|omega|(simp only[zL];omega))only[go_sem,seval]))
 refine W.bc (X:=Nat) (fun i=>[(4,.int .i64 (i:Int)),(3,.str (ef (s.take i))),(0,.str s)]) (fun _=>[]) (fun i=>i≤s.length) (fun i=>s.length - i) 0 (Nat.zero_le _) (by simp[aC,Av.get,ef]) rfl ?_;intro i hi;refine .vc (by decide) ?_;by_cases h:i<s.length
 ·obtain⟨x,hx,_⟩:=drop_at h
  have hbs:=bsB (up x);have hcv:=cvS (up x);have hgl:(ef (s.take i)).length≤1000000:=by rw[ch];simp;omega
  have hg:ef (s.take (i+1))=ef (s.take i)++[up x]:=by simp[ef,List.take_add_one,hx]
  have hlt:=x.toNat_lt;by_cases h1:97≤x.toNat
  ·by_cases h2:x.toNat≤122
   ·have hu:((x.toNat:Int) - 32)=((up x).toNat:Int):=by
     have:up x=x - 32:=by unfold up;rw[if_pos ⟨UInt8.le_iff_toNat_le.2 h1,UInt8.le_iff_toNat_le.2 h2⟩]
     rw[this,UInt8.toNat_sub_of_le _ _ (UInt8.le_iff_toNat_le.2 (by simp;omega))];simp;omega
    have hsub:∀t,aH Tryz.prog .sub t (.int .u8 (x.toNat:Int)) (.int .u8 32)=some (.int .u8 (up x).toNat):=by
     intro t;rw[←hu];simp only[aH,IntKind.wrap,IntKind.bits,IntKind.signed];simp;omega
    repeat'(first|(simp(disch:=first|omega|(simp only[zL];omega))only[go_sem,seval,xi9 hx,hsub,hbs,hcv]))
    exact⟨i+1,by omega,by omega,⟨rfl,by rw[hg];rfl,rfl,trivial⟩⟩
   ·have hu:up x=x:=by unfold up;rw[if_neg];rintro⟨_,h⟩;exact h2 (UInt8.le_iff_toNat_le.1 h)
    rw[hu]at hbs hcv hg
    repeat'(first|(simp(disch:=first|omega|(simp only[zL];omega))only[go_sem,seval,xi9 hx,hbs,hcv]))
    exact⟨i+1,by omega,by omega,⟨rfl,by rw[hg];rfl,rfl,trivial⟩⟩
  ·have hu:up x=x:=by unfold up;rw[if_neg];rintro⟨h,_⟩;exact h1 (UInt8.le_iff_toNat_le.1 h)
   rw[hu]at hbs hcv hg
   repeat'(first|(simp(disch:=first|omega|(simp only[zL];omega))only[go_sem,seval,xi9 hx,hbs,hcv]))
   exact⟨i+1,by omega,by omega,⟨rfl,by rw[hg];rfl,rfl,trivial⟩⟩
 ·have e:i=s.length:=by omega
  subst e;rw[List.take_length]
  repeat'(first|(simp(disch:=first|omega|(simp only[zL];omega))only[go_sem,seval]))
  exact⟨_,rfl,_,rfl,.refl _⟩
/-! ### Folded -/
theorem EM(x:UInt8):au Tryz.prog 108 1 [(0,.int .u8 x.toNat)]=some (.vsl 0 true [aS x]):=bsB x
theorem BL:cp 1 (.str [13,10,32])=fun _=>some (3,av [13,10,32]):=by funext H;rfl
def byM(k:Nat)(z:Bool)(L:Bytes):List OB:=mem [] aS k 0 z L
def byV(k:Nat)(z:Bool)(L:Bytes):AV:=bp 0 0 0 aS k z L
theorem ej(L:Bytes):be aS L=av L:=by
 induction L with
 |nil=>rfl
 |cons x t ih=>simp only[be,List.map_cons,List.flatMap_cons]at ih ⊢;rw[ih];rfl
theorem jr(k:Nat)(z:Bool)(L:Bytes)(x:UInt8)(y:Bool)(hb:L.length≤1000000)(h:z=false→L=[]):
    ∃k',aE Tryz.prog 108 108 (byV k z L) (.vsl 0 y [aS x]) (byM k z L)=some (byV k' true (L++[x]),byM k' true (L++[x])):=by
  have hz8:(1:Nat)=esz 0:=rfl;cases z with
  | false=>
    rw[h rfl];refine⟨k,?_⟩;have:(mem [] aS k 0 false ([]:Bytes))=List.replicate k .dead:=by simp[mem]
    simp only[byV,byM,bp,Bool.false_eq_true,if_false,List.map_nil,this,aE,Tryz.underlying108,apX,sX,cp,cO];simp[mem,ej,av,esz,AV.cells,aS]
  | true=>
    refine⟨k+1,?_⟩;have hl:(mem [] aS k 0 true L)=List.replicate k .dead++[.cells (av L) true]:=by simp[mem,ej]
    have hl2:(mem [] aS (k+1) 0 true (L++[x]))=List.replicate (k+1) .dead++[.cells (av (L++[x])) true]:=by simp[mem,ej]
    have hg:(List.replicate k OB.dead++[OB.cells (av L) true])[k]? =some (.cells (av L) true):=by
      rw[List.getElem?_append_right (by simp)];simp
    have hs:(List.replicate k OB.dead++[OB.cells (av L) true]).set k .dead=List.replicate (k+1) .dead:=by
      rw[List.set_append_right _ _ (by simp)];simp[List.replicate_succ']
    simp only[byV,byM,bp,if_true,hl,hl2,Nat.zero_add,List.length_nil,aE,Tryz.underlying108,apX,sX,cp,cO,hg];have hbl:(av L).length=L.length:=cK L;have hn:([aS x].flatMap AV.cells)=[aS x]:=rfl;simp only[hn,List.length_cons,List.length_nil,esz,if_true,Nat.mul_one,Nat.zero_add,hbl,List.drop_zero];rw[if_pos ⟨trivial,rfl,by omega,Nat.le_refl _⟩,if_neg (by omega)];simp[hs,av,List.replicate_succ']
theorem EN(k:Nat)(z:Bool)(L:Bytes)(hb:L.length≤1000000)(h:z=false→L=[]):
    ∃k',aE Tryz.prog 108 9 (byV k z L) (.str [13,10,32]) (byM k z L)=some (byV k' true (L++[13,10,32]),byM k' true (L++[13,10,32])):=by
  have hap:apX Tryz.prog 9=true:=by simp[apX,Tryz.underlying9]
  have hcn:=congrFun BL;cases z with
  | false=>
    rw[h rfl];refine⟨k,?_⟩;have:(mem [] aS k 0 false ([]:Bytes))=List.replicate k .dead:=by simp[mem]
    simp only[byV,byM,bp,Bool.false_eq_true,if_false,List.map_nil,this,aE,Tryz.underlying108,hap,sX,hcn,cO];simp[mem,ej,av,esz,AV.cells,aS]
  | true=>
    refine⟨k+1,?_⟩;have hl:(mem [] aS k 0 true L)=List.replicate k .dead++[.cells (av L) true]:=by simp[mem,ej]
    have hl2:(mem [] aS (k+1) 0 true (L++[13,10,32]))=List.replicate (k+1) .dead++[.cells (av (L++[13,10,32])) true]:=by simp[mem,ej]
    have hg:(List.replicate k OB.dead++[OB.cells (av L) true])[k]? =some (.cells (av L) true):=by
      rw[List.getElem?_append_right (by simp)];simp
    have hs:(List.replicate k OB.dead++[OB.cells (av L) true]).set k .dead=List.replicate (k+1) .dead:=by
      rw[List.set_append_right _ _ (by simp)];simp[List.replicate_succ']
    simp only[byV,byM,bp,if_true,hl,hl2,Nat.zero_add,List.length_nil,aE,Tryz.underlying108,hap,sX,hcn,hg];have hbl:(av L).length=L.length:=cK L;simp only[esz,if_true,Nat.mul_one,Nat.zero_add,hbl,List.drop_zero];rw[if_pos ⟨trivial,rfl,by omega,Nat.le_refl _⟩,if_neg (by omega)];simp[hs,av,List.replicate_succ']
theorem vJ(k:Nat)(z:Bool)(L:Bytes)(h:z=false→L=[]):bx Tryz.prog 108 9 (byV k z L) (byM k z L)=some (.str L,byM k z L):=by
 cases z with
 |false=>rw[h rfl];simp[byV,bp,bx,Tryz.underlying9,Tryz.underlying108,Tryz.underlying5];rfl
 | true=>
  have hl:(mem [] aS k 0 true L)=List.replicate k .dead++[.cells (av L) true]:=by simp[mem,ej]
  have hg:(List.replicate k OB.dead++[OB.cells (av L) true])[k]? =some (.cells (av L) true):=by
   rw[List.getElem?_append_right (by simp)];simp
  have hbl:(av L).length=L.length:=cK L;simp only[byV,byM,bp,if_true,hl,Nat.zero_add,List.length_nil,bx,Tryz.underlying9,Tryz.underlying108,Tryz.underlying5,hg,Nat.zero_add,hbl];simp[List.take_of_length_le,dY,hbl]
theorem iU(c:List Val)(f:Nat)(v:Val)(h:c[f]? =some v):bR c f=v.2:=by simp[bR,List.getD,h]
theorem F9{P:Program}{rs:List ResultVar}{a:St}{v v':AV}(t ty d:Nat)(hr:rs=[.cell t ty])(hD:a.D=[.mark d])(hd:a.H[d]? =some .dfr)(hl:ao P ty (Av.get a.T t) (a.H.set d .dead)=some v)(hv:v.hf=true)(he:Le v v'):eI P rs (.ret v') .ret a:=by
 obtain⟨T,H,D⟩:=a;simp only at hD hd hl;subst hD;subst hr;refine⟨⟨T,H.set d .dead,[]⟩,?_,v,?_,he⟩
 ·simp[fe,jB,hd]
 ·show(ao P ty (Av.get T t) (H.set d .dead)).bind _=_
  rw[hl];exact dj hv
theorem iv(id i:Nat)(hi:i<8)(H:List OB):ak Tryz.prog 27 (.ptr id 0) (.int .i64 (i:Int)) H=some (.ptr id i):=by
 simp[ak,bt,Tryz.underlying27,ph,hi]
theorem ldE(H:List OB)(id:Nat)(v:AV)(b:Bool)(h:H[id]? =some (.cells [v] b)):ao Tryz.prog 31 (.ptr id 0) H=some v:=by
 simp[GB,ldC,h]
set_option maxRecDepth 100000 in
theorem Ku(c:List Val)(hc:c.length=8):ad Tryz.prog 25 [.agg (c.map aF)] (.ret (.int .i64 (if eu (bR c)then 0 else 2))):=by
 have hfv:=EJ c hc;have hld0:∀H,ao Tryz.prog 27 (.ptr 0 0) (.cells (c.map aF) false::H)=some (.agg (c.map aF)):=by
  intro H;simp[ao,Dd,Gz,ldA,hc];exact List.take_of_length_le (by simp[hc])
 refine ad.of Tryz.func25 rfl (ab enters Tryz.func25 rfl) (by simp[Tryz.ntmps25]) ?_;show W Tryz.prog 31 0 none _ _ _;refine W.vc (by decide) ?_
 repeat'(first|(simp(disch:=first|omega|(simp only[zL];omega))only[go_sem,seval,hld0])|((with_reducible first|apply aj.pure|apply ar.pure);(with_reducible exact hfv);(first|rfl|simp only[go_sem,br])))
 have hstep:=allI 3 false (c.map aF) (tP c) (by simp[hc]) (fun f=>eR f (bR c f))
  ([.cells (c.map aF) false,.cells [.int .i64 0] false]++[.dfr,.loop (tK c) lkK]) (fun _=>jK c 0 lkK) (jK c 2 kdK) ⟨rfl,rfl,rfl,rfl⟩ (by
   intro i v K hv hK;rw[List.getElem?_map,Option.map_eq_some_iff]at hv;obtain⟨u,hu,rfl⟩:=hv;have hi:i<8:=by rw[←hc];exact(List.getElem?_eq_some_iff.1 hu).1
   simp only[iU c i u hu]
   exact H0 c i hi u K hK)
 rw[List.length_map,hc]at hstep;refine W.fN (gf:=140) (fs:=[]) (cs:=[.vptr [.vsl 0 false (c.map aF)]]) rfl (ab enters Tryz.func140 rfl) hstep ?_;rintro out K ⟨rfl,h|h⟩
 ·obtain⟨hg,h0,h1,h2,h3⟩:=h
  refine⟨_,_,_,rfl,h3,by simp[lkK],?_⟩;show cw _ _ _ _ _ none;have l3:3<K.length:=(List.getElem?_eq_some_iff.1 h3).1;obtain⟨M,hM⟩:∃M,M=K.set 3 OB.dead:=⟨_,rfl⟩
  have gM:∀j,j<3→M[j]? =K[j]?:=by intro j hj;rw[hM,List.getElem?_set,if_neg (by omega)]
  have m0:M[0]? =some (.cells (c.map aF) false):=by rw[gM 0 (by omega)];exact h0
  have m1:M[1]? =some (.cells [.int .i64 0] false):=by rw[gM 1 (by omega)];exact h1
  have m2:M[2]? =some .dfr:=by rw[gM 2 (by omega)];exact h2
  have l1:1<M.length:=(List.getElem?_eq_some_iff.1 m1).1;have hMe:K.set ([OB.cells (c.map aF) false,.cells [.int .i64 0] false].length+1) .dead=M:=hM.symm;rw[hMe];obtain⟨u,hu⟩:∃u,c[0]? =some u:=⟨c[0],List.getElem?_eq_getElem (by omega)⟩
  have hf0:bR c 0=u.2:=iU c 0 u hu;have hia:ak Tryz.prog 27 (.ptr 0 0) (.int .i64 0) M=some (.ptr 0 0):=iv 0 0 (by decide) M;have hld:ao Tryz.prog 25 (.ptr 0 0) M=some (aF u):=by
   have hcu:(c.map aF)[0]? =some (aF u):=by simp[hu]
   rw[yo];simp only[ldC,m0,hcu]
  have hln:aI Tryz.prog 25 (aF u) M=some (.int .i64 u.2.length):=by simp[aI,aF,Tryz.underlying25]
  have hst:∀v,aA Tryz.prog 31 (.ptr 1 0) (.int .i64 v) M=some (M.set 1 (.cells [.int .i64 v] false)):=by
   intro v;rw[GA];simp[stC,m1,AV.cells,AV.isC,cz]
  have hde:deN (aF u)=aF u:=rfl;have fin:∀T v,Av.get T 2=.ptr 1 0→eI Tryz.prog Tryz.f25.results.toList (.ret (.int .i64 v)) .ret ⟨T,M.set 1 (.cells [.int .i64 v] false),[.mark 2]⟩:=by
   intro T v hT;refine F9 2 31 2 rfl rfl ?_ ?_ rfl (.refl _)
   ·show(M.set 1 _)[2]? =_
    rw[List.getElem?_set,if_neg (by omega)];exact m2
   ·show ao _ _ (Av.get T 2) _=_
    rw[hT];refine ldE _ 1 _ false ?_;rw[List.getElem?_set,if_neg (by omega),List.getElem?_set_self l1]
  have hck:eu (bR c)=decide (u.2.length=1):=by unfold eu;rw[hg,hf0,Bool.true_and]
  rw[hck];by_cases c1:u.2.length=1
  ·rw[decide_eq_true c1,if_pos rfl]
   repeat'(first|(simp(disch:=first|omega|(simp only[zL];omega))only[go_sem,seval,cw,hia,hld,hln,hst,hde,tK]))
   exact fin _ _ rfl
  ·rw[decide_eq_false c1,if_neg (by simp)]
   repeat'(first|(simp(disch:=first|omega|(simp only[zL];omega))only[go_sem,seval,cw,hia,hld,hln,hst,hde,tK]))
   exact fin _ _ rfl
 ·obtain⟨hg,h0,h1,h2,h3⟩:=h
  refine⟨_,_,_,rfl,h3,by simp[kdK],?_⟩;show cw _ _ _ _ _ (some .ret);have hck:eu (bR c)=false:=by unfold eu;rw[hg];rfl
  rw[hck,if_neg (by simp)];have l1:1<K.length:=(List.getElem?_eq_some_iff.1 h1).1;simp only[cw];refine .ret ?_;simp only[aO,ai];refine F9 (v:=.int .i64 2) 2 31 2 rfl rfl ?_ ?_ rfl (.refl _)
  ·show(K.set 3 .dead)[2]? =_
   rw[List.getElem?_set,if_neg (by omega)];exact h2
  ·show ao _ _ (.ptr 1 0) ((K.set 3 .dead).set 2 .dead)=_
   refine ldE _ 1 _ false ?_;rw[List.getElem?_set,if_neg (by omega),List.getElem?_set,if_neg (by omega)];exact h1
theorem xw{α:Type}{l m:List α}{i:Nat}{u v:α}(h:l.take i=m.take i)(hu:l[i]? =some u)(hv:m[i]? =some v)(e:u=v):l.take (i+1)=m.take (i+1):=by
 rw[List.take_add_one,List.take_add_one,hu,hv,h,e]
theorem Ga{α:Type}{l m:List α}{i:Nat}{u v:α}(hu:l[i]? =some u)(hv:m[i]? =some v)(e:u≠v):l≠m:=by
 rintro rfl;rw[hu]at hv;cases hv;exact e rfl
theorem EO{P:Program}{f:FuncId}{x:Bool}{l:List Bytes}{r:List AV}{out:Out}(h:l.length≤9223372036854775807→ad P f (.vsl 0 x (l.map .str)::r) out):ad P f (.vsl 0 x (l.map .str)::r) out:=
 ad.fit fun hfit=>h (by have:(l.map AV.str).length≤9223372036854775807:=hfit (.vsl 0 x (l.map .str)) (by simp);simpa using this)
set_option maxRecDepth 8000 in
theorem H5(x y:Bool)(l m:List Bytes):ad Tryz.prog 77 [.vsl 0 x (l.map .str),.vsl 0 y (m.map .str)] (.ret (.bool (l==m))):=by
 refine EO fun hb=>?_;by_cases hl:l.length=m.length
 case neg=>
  have e:(l==m)=false:=by simp;rintro rfl;exact hl rfl
  rw[e];refine ad.of Tryz.func77 rfl (ab enters Tryz.func77 rfl) (by simp[Tryz.ntmps77]) ?_;show W Tryz.prog 26 0 none _ _ _;refine W.vc (by decide) ?_
  repeat'(first|(simp(disch:=first|omega|(simp only[zL];omega))only[go_sem,Nat.reduceEqDiff,↓reduceIte,Nat.reduceAdd,Nat.reduceMul,Nat.reduceSub,Nat.reduceLeDiff,Nat.reduceLT,Int.reduceToNat,Int.reduceLE]))
  exact⟨_,rfl,_,rfl,.refl _⟩
 refine ad.of Tryz.func77 rfl (ab enters Tryz.func77 rfl) (by simp[Tryz.ntmps77]) ?_;show W Tryz.prog 26 0 none _ _ _;refine W.vc (by decide) ?_
 repeat'(first|(simp(disch:=first|omega|(simp only[zL];omega))only[go_sem,Nat.reduceEqDiff,↓reduceIte,Nat.reduceAdd,Nat.reduceMul,Nat.reduceSub,Nat.reduceLeDiff,Nat.reduceLT,Int.reduceToNat,Int.reduceLE]))
 refine W.bc (X:=Nat) (fun i=>[(5,.int .i64 (i:Int)),(0,.vsl 0 x (l.map .str)),(1,.vsl 0 y (m.map .str))]) (fun _=>[]) (fun i=>i≤l.length∧l.take i=m.take i) (fun i=>l.length - i) 0 ⟨Nat.zero_le _,rfl⟩ ⟨rfl,rfl,rfl,trivial⟩ rfl ?_;rintro i ⟨hi,ht⟩;refine .vc (by decide) ?_;by_cases h:i<l.length
 ·obtain⟨u,hu,_⟩:=drop_at h
  obtain⟨v,hv,_⟩:=drop_at (show i<m.length by omega);have h1:∀H,ak Tryz.prog 25 (.vsl 0 x (l.map .str)) (.int .i64 (i:Int)) H=some (.vptr [.str u]):=fun H=>eJ (v:=.str u) (by simp[hu]) rfl H;have h2:∀H,ak Tryz.prog 25 (.vsl 0 y (m.map .str)) (.int .i64 (i:Int)) H=some (.vptr [.str v]):=fun H=>eJ (v:=.str v) (by simp[hv]) rfl H;cases hc:(u==v)with
  |true=>
   have hn:=xw ht hu hv (by simpa using hc)
   repeat'(first|(simp(disch:=first|omega|(simp only[zL];omega))only[go_sem,Nat.reduceEqDiff,↓reduceIte,Nat.reduceAdd,Nat.reduceMul,Nat.reduceSub,Nat.reduceLeDiff,Nat.reduceLT,Int.reduceToNat,Int.reduceLE]))
   refine W.bw [] [false,false,false,false,false,false,false,false,false] [] mixed (by kernel_rfl) (by kernel_rfl) (by kernel_rfl) ?_
   repeat'(first|(simp(disch:=first|omega|(simp only[zL];omega))only[go_sem,Nat.reduceEqDiff,↓reduceIte,Nat.reduceAdd,Nat.reduceMul,Nat.reduceSub,Nat.reduceLeDiff,Nat.reduceLT,Int.reduceToNat,Int.reduceLE,h1,h2,hc]))
   exact⟨i+1,⟨by omega,hn⟩,by omega,rfl,rfl,rfl,trivial⟩
  |false=>
   have e:(l==m)=false:=by simpa using Ga hu hv (by simpa using hc)
   rw[e]
   repeat'(first|(simp(disch:=first|omega|(simp only[zL];omega))only[go_sem,Nat.reduceEqDiff,↓reduceIte,Nat.reduceAdd,Nat.reduceMul,Nat.reduceSub,Nat.reduceLeDiff,Nat.reduceLT,Int.reduceToNat,Int.reduceLE]))
   refine W.bw [] [false,false,false,false,false,false,false,false,false] [] mixed (by kernel_rfl) (by kernel_rfl) (by kernel_rfl) ?_
   repeat'(first|(simp(disch:=first|omega|(simp only[zL];omega))only[go_sem,Nat.reduceEqDiff,↓reduceIte,Nat.reduceAdd,Nat.reduceMul,Nat.reduceSub,Nat.reduceLeDiff,Nat.reduceLT,Int.reduceToNat,Int.reduceLE,h1,h2,hc]))
   exact⟨_,rfl,_,rfl,.refl _⟩
 ·have e:i=l.length:=by omega
  subst e;have e:(l==m)=true:=by
   rw[List.take_length,hl,List.take_length]at ht;simp[ht]
  rw[e]
  repeat'(first|(simp(disch:=first|omega|(simp only[zL];omega))only[go_sem,Nat.reduceEqDiff,↓reduceIte,Nat.reduceAdd,Nat.reduceMul,Nat.reduceSub,Nat.reduceLeDiff,Nat.reduceLT,Int.reduceToNat,Int.reduceLE]))
  exact⟨_,rfl,_,rfl,.refl _⟩
set_option maxRecDepth 8000 in
theorem equalS(x y:Bool)(l m:List Bytes):ad Tryz.prog 102 [.vsl 0 x (l.map .str),.vsl 0 y (m.map .str)] (.ret (.bool (l==m))):=by
 refine EO fun hb=>?_;by_cases hl:l.length=m.length
 case neg=>
  have e:(l==m)=false:=by simp;rintro rfl;exact hl rfl
  rw[e];refine ad.of Tryz.func102 rfl (ab enters Tryz.func102 rfl) (by simp[Tryz.ntmps102]) ?_;show W Tryz.prog 26 0 none _ _ _;refine W.vc (by decide) ?_
  repeat'(first|(simp(disch:=first|omega|(simp only[zL];omega))only[go_sem,Nat.reduceEqDiff,↓reduceIte,Nat.reduceAdd,Nat.reduceMul,Nat.reduceSub,Nat.reduceLeDiff,Nat.reduceLT,Int.reduceToNat,Int.reduceLE]))
  exact⟨_,rfl,_,rfl,.refl _⟩
 refine ad.of Tryz.func102 rfl (ab enters Tryz.func102 rfl) (by simp[Tryz.ntmps102]) ?_;show W Tryz.prog 26 0 none _ _ _;refine W.vc (by decide) ?_
 repeat'(first|(simp(disch:=first|omega|(simp only[zL];omega))only[go_sem,Nat.reduceEqDiff,↓reduceIte,Nat.reduceAdd,Nat.reduceMul,Nat.reduceSub,Nat.reduceLeDiff,Nat.reduceLT,Int.reduceToNat,Int.reduceLE]))
 refine W.bc (X:=Nat) (fun i=>[(13,.int .i64 (i:Int)),(12,.int .i64 l.length),(0,.vsl 0 x (l.map .str)),(1,.vsl 0 y (m.map .str))]) (fun _=>[]) (fun i=>i≤l.length∧l.take i=m.take i) (fun i=>l.length - i) 0 ⟨Nat.zero_le _,rfl⟩ ⟨rfl,rfl,rfl,rfl,trivial⟩ rfl ?_;rintro i ⟨hi,ht⟩;refine .vc (by decide) ?_;by_cases h:i<l.length
 ·obtain⟨u,hu,_⟩:=drop_at h
  obtain⟨v,hv,_⟩:=drop_at (show i<m.length by omega);have h1:∀H,ak Tryz.prog 25 (.vsl 0 x (l.map .str)) (.int .i64 (i:Int)) H=some (.vptr [.str u]):=fun H=>eJ (v:=.str u) (by simp[hu]) rfl H;have h2:∀H,ak Tryz.prog 25 (.vsl 0 y (m.map .str)) (.int .i64 (i:Int)) H=some (.vptr [.str v]):=fun H=>eJ (v:=.str v) (by simp[hv]) rfl H;cases hc:(u==v)with
  |true=>
   have hn:=xw ht hu hv (by simpa using hc)
   repeat'(first|(simp(disch:=first|omega|(simp only[zL];omega))only[go_sem,Nat.reduceEqDiff,↓reduceIte,Nat.reduceAdd,Nat.reduceMul,Nat.reduceSub,Nat.reduceLeDiff,Nat.reduceLT,Int.reduceToNat,Int.reduceLE]))
   refine W.bw [] [false,false,false,false,false,false,false,false,false] [] mixed (by kernel_rfl) (by kernel_rfl) (by kernel_rfl) ?_
   repeat'(first|(simp(disch:=first|omega|(simp only[zL];omega))only[go_sem,Nat.reduceEqDiff,↓reduceIte,Nat.reduceAdd,Nat.reduceMul,Nat.reduceSub,Nat.reduceLeDiff,Nat.reduceLT,Int.reduceToNat,Int.reduceLE,h1,h2,hc]))
   exact⟨i+1,⟨by omega,hn⟩,by omega,rfl,rfl,rfl,rfl,trivial⟩
  |false=>
   have e:(l==m)=false:=by simpa using Ga hu hv (by simpa using hc)
   rw[e]
   repeat'(first|(simp(disch:=first|omega|(simp only[zL];omega))only[go_sem,Nat.reduceEqDiff,↓reduceIte,Nat.reduceAdd,Nat.reduceMul,Nat.reduceSub,Nat.reduceLeDiff,Nat.reduceLT,Int.reduceToNat,Int.reduceLE]))
   refine W.bw [] [false,false,false,false,false,false,false,false,false] [] mixed (by kernel_rfl) (by kernel_rfl) (by kernel_rfl) ?_
   repeat'(first|(simp(disch:=first|omega|(simp only[zL];omega))only[go_sem,Nat.reduceEqDiff,↓reduceIte,Nat.reduceAdd,Nat.reduceMul,Nat.reduceSub,Nat.reduceLeDiff,Nat.reduceLT,Int.reduceToNat,Int.reduceLE,h1,h2,hc]))
   exact⟨_,rfl,_,rfl,.refl _⟩
 ·have e:i=l.length:=by omega
  subst e;have e:(l==m)=true:=by
   rw[List.take_length,hl,List.take_length]at ht;simp[ht]
  rw[e]
  repeat'(first|(simp(disch:=first|omega|(simp only[zL];omega))only[go_sem,Nat.reduceEqDiff,↓reduceIte,Nat.reduceAdd,Nat.reduceMul,Nat.reduceSub,Nat.reduceLeDiff,Nat.reduceLT,Int.reduceToNat,Int.reduceLE]))
  exact⟨_,rfl,_,rfl,.refl _⟩
/-! ### The reference's -/
theorem Kv(f:Nat)(hf:f<8):ad Tryz.prog 117 [.int .i64 (f:Int)] (.ret (.int .i64 (fm f:Int))):=by
 by_cases h:6≤f
 case pos=>
  have e:fm f=8:=if_pos h;rw[e];refine ad.of Tryz.func117 rfl (ab enters Tryz.func117 rfl) (by simp[Tryz.ntmps117]) ?_;show W Tryz.prog 5 0 none _ _ _;refine W.vc (by decide) ?_
  repeat'(first|(simp(disch:=first|omega|(simp only[zL];omega))only[go_sem,Nat.reduceEqDiff,↓reduceIte,Nat.reduceAdd,Nat.reduceMul,Nat.reduceSub,Nat.reduceLeDiff,Nat.reduceLT,Int.reduceToNat,Int.reduceLE]))
  exact⟨_,rfl,_,rfl,.refl _⟩
 case neg=>
  have e:fm f=1:=if_neg h;rw[e];refine ad.of Tryz.func117 rfl (ab enters Tryz.func117 rfl) (by simp[Tryz.ntmps117]) ?_;show W Tryz.prog 5 0 none _ _ _;refine W.vc (by decide) ?_
  repeat'(first|(simp(disch:=first|omega|(simp only[zL];omega))only[go_sem,Nat.reduceEqDiff,↓reduceIte,Nat.reduceAdd,Nat.reduceMul,Nat.reduceSub,Nat.reduceLeDiff,Nat.reduceLT,Int.reduceToNat,Int.reduceLE]))
  exact⟨_,rfl,_,rfl,.refl _⟩
def dK(f:Nat)(l:List Bytes):Bool:=eR f l&&(decide (f≠0)||decide (l.length=1))
def mJ(f:Nat)(l:List Bytes)(i:Nat):Bool:=(l.drop i).all (fh f)&&mT (l.drop (i - 1))
theorem vK{f:Nat}{l:List Bytes}{i:Nat}{u:Bytes}(hu:l[i]? =some u):mJ f l i=((fh f u&&(decide (i=0)||match l[i - 1]? with|some v=>Op.bytesLess v u|none=>true))&&mJ f l (i+1)):=by
 have hi:=(List.getElem?_eq_some_iff.1 hu).1;obtain⟨u',hu',hd⟩:=drop_at hi;rw[hu]at hu';cases hu';unfold mJ;rw[hd,List.all_cons];cases i with
 |zero=>
  simp only[Nat.zero_sub,Nat.add_sub_cancel,decide_true,Bool.true_or,Bool.and_true];rw[hd,Bool.and_assoc]
 |succ i=>
  obtain⟨v,hv,hd2⟩:=drop_at (show i<l.length by omega);simp only[Nat.add_sub_cancel,hv];rw[ql hv hu];simp only[Nat.succ_ne_zero,decide_false,Bool.false_or];cases fh f u<;>cases Op.bytesLess v u<;>simp
theorem yL{f:Nat}{s:Bytes}{k:Nat}{x:UInt8}(h:s[k]? =some x)(h0:(s.drop k).all (okK f)=s.all (okK f)):(okK f x&&(s.drop (k+1)).all (okK f))=s.all (okK f):=by
 obtain⟨y,hy,hd⟩:=drop_at (List.getElem?_eq_some_iff.1 h).1;rw[h]at hy;cases hy;rw[←h0,hd,List.all_cons]
set_option maxRecDepth 8000 in
theorem EP (f:Nat) (hf:f<8) (x:Bool) (l:List Bytes):ad Tryz.prog 66 [.int .i64 (f:Int),.vsl 0 x (l.map .str)] (.ret (.bool (dK f l))):=by
  refine ad.fit fun hfit=> ?_;have hb:(l.map AV.str).length≤9223372036854775807:=hfit (.vsl 0 x (l.map .str)) (by simp);rw[List.length_map]at hb;have hm:=Kv f hf;have hm8:fm f≤8:=by unfold fm;split<;>omega
  by_cases q1:l.length>fm f
  case pos=>
    have e:dK f l=false:=by unfold dK eR;rw[decide_eq_false (by omega)];rfl
    rw[e];refine ad.of Tryz.func66 rfl (ab enters Tryz.func66 rfl) (by simp[Tryz.ntmps66]) ?_;show W Tryz.prog 83 0 none _ _ _;refine W.vc (by decide) ?_
    repeat'(first|(simp(disch:=first|omega|(simp only[zL];omega))only[go_sem,Nat.reduceEqDiff,↓reduceIte,Nat.reduceAdd,Nat.reduceMul,Nat.reduceSub,Nat.reduceLeDiff,Nat.reduceLT,Int.reduceToNat,Int.reduceLE])|((with_reducible first|apply aj.pure|apply ar.pure);(with_reducible exact hm);(first|rfl|simp only[go_sem])))
    exact⟨_,rfl,_,rfl,.refl _⟩
  have q1':l.length≤fm f:=by omega
  by_cases q2:f=0∧l.length≠1
  case pos=>
    obtain⟨q2,q3⟩:=q2;have e:dK f l=false:=by unfold dK;simp[q2,q3]
    rw[e];subst q2;refine ad.of Tryz.func66 rfl (ab enters Tryz.func66 rfl) (by simp[Tryz.ntmps66]) ?_;show W Tryz.prog 83 0 none _ _ _;refine W.vc (by decide) ?_
    repeat'(first|(simp(disch:=first|omega|(simp only[zL];omega))only[go_sem,Nat.reduceEqDiff,↓reduceIte,Nat.reduceAdd,Nat.reduceMul,Nat.reduceSub,Nat.reduceLeDiff,Nat.reduceLT,Int.reduceToNat,Int.reduceLE])|((with_reducible first|apply aj.pure|apply ar.pure);(with_reducible exact hm);(first|rfl|simp only[go_sem])))
    exact⟨_,rfl,_,rfl,.refl _⟩
  have hv :dK f l=mJ f l 0:=by
    have:(decide (f≠0)||decide (l.length=1))=true:=by
      by_cases h:f=0
      · have:l.length=1:=by
          rcases Nat.decEq l.length 1 with h1|h1
          · exact(q2 ⟨h,h1⟩).elim
          · exact h1
        simp[this]
      · simp[h]
    unfold dK eR mJ;rw[this,Bool.and_true,decide_eq_true q1',Bool.true_and];rfl
  rw[hv];obtain⟨r0,hr0⟩: ∃r0,r0=mJ f l 0:=⟨_,rfl⟩
  rw[←hr0];refine ad.of Tryz.func66 rfl (ab enters Tryz.func66 rfl) (by simp[Tryz.ntmps66]) ?_;show W Tryz.prog 83 0 none _ _ _;refine .seq (.vc (by decide) ?_)
  repeat'(first|(simp(disch:=first|omega|(simp only[zL];omega))only[go_sem,Nat.reduceEqDiff,↓reduceIte,Nat.reduceAdd,Nat.reduceMul,Nat.reduceSub,Nat.reduceLeDiff,Nat.reduceLT,Int.reduceToNat,Int.reduceLE]))
  refine W.gX [(0,.int .i64 (f:Int)),(1,.vsl 0 x (l.map .str))] [] (.vc (by decide) ?_) ?_
  · by_cases h0:f=0
    · have h1:l.length=1:=by
        rcases Nat.decEq l.length 1 with h1|h1
        · exact(q2 ⟨h0,h1⟩).elim
        · exact h1
      repeat'(first|(simp(disch:=first|omega|(simp only[zL];omega))only[go_sem,Nat.reduceEqDiff,↓reduceIte,Nat.reduceAdd,Nat.reduceMul,Nat.reduceSub,Nat.reduceLeDiff,Nat.reduceLT,Int.reduceToNat,Int.reduceLE])|((with_reducible first|apply aj.pure|apply ar.pure);(with_reducible exact hm);(first|rfl|simp only[go_sem])))
      exact⟨rfl,rfl,trivial⟩
    · repeat'(first|(simp(disch:=first|omega|(simp only[zL];omega))only[go_sem,Nat.reduceEqDiff,↓reduceIte,Nat.reduceAdd,Nat.reduceMul,Nat.reduceSub,Nat.reduceLeDiff,Nat.reduceLT,Int.reduceToNat,Int.reduceLE])|((with_reducible first|apply aj.pure|apply ar.pure);(with_reducible exact hm);(first|rfl|simp only[go_sem])))
      exact⟨rfl,rfl,trivial⟩
  refine .vc (by decide) ?_
  repeat'(first|(simp(disch:=first|omega|(simp only[zL];omega))only[go_sem,Nat.reduceEqDiff,↓reduceIte,Nat.reduceAdd,Nat.reduceMul,Nat.reduceSub,Nat.reduceLeDiff,Nat.reduceLT,Int.reduceToNat,Int.reduceLE]))
  refine W.bc (X:=Nat) (fun i=>[(5,.int .i64 (i:Int)),(0,.int .i64 (f:Int)),(1,.vsl 0 x (l.map .str))]) (fun _=>[]) (fun i=>i≤l.length∧mJ f l i=r0) (fun i=>l.length - i) 0 ⟨Nat.zero_le _,hr0.symm⟩ ⟨rfl,rfl,rfl,trivial⟩ rfl ?_;rintro i ⟨hi,ht⟩;by_cases h:i<l.length
  case neg=>
    have e:i=l.length:=by omega
    subst e;have e:r0=true:=by
      rw[←ht];unfold mJ;rw[List.drop_length];have:(l.drop (l.length - 1)).length≤1:=by simp;omega
      match l.drop (l.length - 1),this with
      | [],_=>rfl
      | [_],_=>rfl
    rw[e];refine .vc (by decide) ?_
    repeat'(first|(simp(disch:=first|omega|(simp only[zL];omega))only[go_sem,Nat.reduceEqDiff,↓reduceIte,Nat.reduceAdd,Nat.reduceMul,Nat.reduceSub,Nat.reduceLeDiff,Nat.reduceLT,Int.reduceToNat,Int.reduceLE]))
    exact⟨_,rfl,_,rfl,.refl _⟩
  obtain⟨u,hu,_⟩:=drop_at h;have h1: ∀H,ak Tryz.prog 25 (.vsl 0 x (l.map .str)) (.int .i64 (i:Int)) H=some (.vptr [.str u]):=fun H=>eJ (v:=.str u) (by simp[hu]) rfl H;rw[vK hu]at ht;obtain⟨lo,hlo⟩: ∃lo,lo=(decide (i=0)||match l[i - 1]? with|some v=>Op.bytesLess v u|none=>true):=⟨_,rfl⟩
  rw[←hlo]at ht;have bad:(fh f u&&lo)=false→r0=false:=by
    intro h;rw[←ht,h];rfl
  refine .seq (.vc (by decide) ?_)
  repeat'(first|(simp(disch:=first|omega|(simp only[zL];omega))only[go_sem,Nat.reduceEqDiff,↓reduceIte,Nat.reduceAdd,Nat.reduceMul,Nat.reduceSub,Nat.reduceLeDiff,Nat.reduceLT,Int.reduceToNat,Int.reduceLE]))
  refine .seq (.block (W.nO (1≤u.length∧u.length≤200∧lo=true) [(5,.int .i64 (i:Int)),(0,.int .i64 (f:Int)),(1,.vsl 0 x (l.map .str))] [] ?_ ?_))
  · by_cases c1 : u.length<1
    · rw [bad (by have:fh f u=false:=by unfold fh;rw[decide_eq_false (show¬1≤u.length by omega)];simp
                  rw[this];rfl)]
      refine .vc (by decide) ?_
      repeat'(first|(simp(disch:=first|omega|(simp only[zL];omega))only[go_sem,Nat.reduceEqDiff,↓reduceIte,Nat.reduceAdd,Nat.reduceMul,Nat.reduceSub,Nat.reduceLeDiff,Nat.reduceLT,Int.reduceToNat,Int.reduceLE]))
      refine W.bw [] [false,false,false,false,false,false,false,false,false,false,false,false,false,false,false,false,false,false,false,false,false,false,false,false,false,false,false,false,false,false] [] mixed (by kernel_rfl) (by kernel_rfl) (by kernel_rfl) ?_
      repeat'(first|(simp(disch:=first|omega|(simp only[zL];omega))only[go_sem,Nat.reduceEqDiff,↓reduceIte,Nat.reduceAdd,Nat.reduceMul,Nat.reduceSub,Nat.reduceLeDiff,Nat.reduceLT,Int.reduceToNat,Int.reduceLE,h1]))
      exact⟨_,rfl,_,rfl,.refl _⟩
    by_cases c2:u.length>200
    · rw [bad (by have:fh f u=false:=by unfold fh;rw[decide_eq_false (show¬u.length≤200 by omega)];simp
                  rw[this];rfl)]
      refine .vc (by decide) ?_
      repeat'(first|(simp(disch:=first|omega|(simp only[zL];omega))only[go_sem,Nat.reduceEqDiff,↓reduceIte,Nat.reduceAdd,Nat.reduceMul,Nat.reduceSub,Nat.reduceLeDiff,Nat.reduceLT,Int.reduceToNat,Int.reduceLE]))
      refine W.bw [] [false,false,false,false,false,false,false,false,false,false,false,false,false,false,false,false,false,false,false,false,false,false,false,false,false,false,false,false,false,false] [] mixed (by kernel_rfl) (by kernel_rfl) (by kernel_rfl) ?_
      repeat'(first|(simp(disch:=first|omega|(simp only[zL];omega))only[go_sem,Nat.reduceEqDiff,↓reduceIte,Nat.reduceAdd,Nat.reduceMul,Nat.reduceSub,Nat.reduceLeDiff,Nat.reduceLT,Int.reduceToNat,Int.reduceLE,h1]))
      exact⟨_,rfl,_,rfl,.refl _⟩
    by_cases hi0:i=0
    · subst hi0
      refine .vc (by decide) ?_
      repeat'(first|(simp(disch:=first|omega|(simp only[zL];omega))only[go_sem,Nat.reduceEqDiff,↓reduceIte,Nat.reduceAdd,Nat.reduceMul,Nat.reduceSub,Nat.reduceLeDiff,Nat.reduceLT,Int.reduceToNat,Int.reduceLE]))
      refine W.bw [] [false,false,false,false,false,false,false,false,false,false,false,false,false,false,false,false,false,false,false,false,false,false,false,false,false,false,false,false,false,false] [] mixed (by kernel_rfl) (by kernel_rfl) (by kernel_rfl) ?_
      repeat'(first|(simp(disch:=first|omega|(simp only[zL];omega))only[go_sem,Nat.reduceEqDiff,↓reduceIte,Nat.reduceAdd,Nat.reduceMul,Nat.reduceSub,Nat.reduceLeDiff,Nat.reduceLT,Int.reduceToNat,Int.reduceLE,h1]))
      exact⟨⟨by omega,by omega,by rw[hlo];rfl⟩,rfl,rfl,rfl,trivial⟩
    · obtain⟨v,hv,_⟩:=drop_at (show i - 1<l.length by omega)
      have h2: ∀H,ak Tryz.prog 25 (.vsl 0 x (l.map .str)) (.int .i64 ((i:Int) - 1)) H=some (.vptr [.str v]):=by
        intro H;have:((i:Int) - 1)=((i - 1:Nat):Int):=by omega
        rw[this];exact eJ (v:=.str v) (by simp[hv]) rfl H
      rw[hv]at hlo;simp only[hi0,decide_false,Bool.false_or]at hlo;cases hless:Op.bytesLess v u with
      | false=>
        rw[hless]at hlo;rw[bad (by rw[hlo];simp)];refine .vc (by decide) ?_
        repeat'(first|(simp(disch:=first|omega|(simp only[zL];omega))only[go_sem,Nat.reduceEqDiff,↓reduceIte,Nat.reduceAdd,Nat.reduceMul,Nat.reduceSub,Nat.reduceLeDiff,Nat.reduceLT,Int.reduceToNat,Int.reduceLE]))
        refine W.bw [] [false,false,false,false,false,false,false,false,false,false,false,false,false,false,false,false,false,false,false,false,false,false,false,false,false,false,false,false,false,false] [] mixed (by kernel_rfl) (by kernel_rfl) (by kernel_rfl) ?_
        repeat'(first|(simp(disch:=first|omega|(simp only[zL];omega))only[go_sem,Nat.reduceEqDiff,↓reduceIte,Nat.reduceAdd,Nat.reduceMul,Nat.reduceSub,Nat.reduceLeDiff,Nat.reduceLT,Int.reduceToNat,Int.reduceLE,h1,h2,rN,hless]))
        exact⟨_,rfl,_,rfl,.refl _⟩
      | true=>
        rw[hless]at hlo;refine .vc (by decide) ?_
        repeat'(first|(simp(disch:=first|omega|(simp only[zL];omega))only[go_sem,Nat.reduceEqDiff,↓reduceIte,Nat.reduceAdd,Nat.reduceMul,Nat.reduceSub,Nat.reduceLeDiff,Nat.reduceLT,Int.reduceToNat,Int.reduceLE]))
        refine W.bw [] [false,false,false,false,false,false,false,false,false,false,false,false,false,false,false,false,false,false,false,false,false,false,false,false,false,false,false,false,false,false] [] mixed (by kernel_rfl) (by kernel_rfl) (by kernel_rfl) ?_
        repeat'(first|(simp(disch:=first|omega|(simp only[zL];omega))only[go_sem,Nat.reduceEqDiff,↓reduceIte,Nat.reduceAdd,Nat.reduceMul,Nat.reduceSub,Nat.reduceLeDiff,Nat.reduceLT,Int.reduceToNat,Int.reduceLE,h1,h2,rN,hless]))
        exact⟨⟨by omega,by omega,hlo⟩,rfl,rfl,rfl,trivial⟩
  rintro⟨c1,c2,hl1⟩;have hvu:fh f u=u.all (okK f):=by unfold fh;rw[decide_eq_true c1,decide_eq_true c2];simp
  rw[hvu,hl1,Bool.and_true]at ht;have bad2:u.all (okK f)=false→r0=false:=by intro h;rw[←ht,h];rfl
  refine .vc (by decide) ?_
  repeat'(first|(simp(disch:=first|omega|(simp only[zL];omega))only[go_sem,Nat.reduceEqDiff,↓reduceIte,Nat.reduceAdd,Nat.reduceMul,Nat.reduceSub,Nat.reduceLeDiff,Nat.reduceLT,Int.reduceToNat,Int.reduceLE]))
  refine W.bc (X:=Nat) (fun k=>[(6,.int .i64 (k:Int)),(5,.int .i64 (i:Int)),(0,.int .i64 (f:Int)),(1,.vsl 0 x (l.map .str))]) (fun _=>[]) (fun k=>k≤u.length∧(u.drop k).all (okK f)=u.all (okK f)) (fun k=>u.length - k) 0 ⟨Nat.zero_le _,rfl⟩ ⟨rfl,rfl,rfl,rfl,trivial⟩ rfl ?_;rintro k ⟨hk,hall⟩;refine .vc (by decide) ?_;by_cases hku:k<u.length
  · obtain⟨y,hy,_⟩:=drop_at hku
    have hnext:=yL hy hall;by_cases d1:y.toNat<32
    · by_cases d2:y.toNat=10
      · by_cases d3:f=5
        · have hok:okK f y=true:=by simp[okK,d2,d3]
          rw[hok,Bool.true_and]at hnext
          repeat'(first|(simp(disch:=first|omega|(simp only[zL];omega))only[go_sem,Nat.reduceEqDiff,↓reduceIte,Nat.reduceAdd,Nat.reduceMul,Nat.reduceSub,Nat.reduceLeDiff,Nat.reduceLT,Int.reduceToNat,Int.reduceLE,h1,xi9 hy]))
          exact⟨k+1,⟨by omega,hnext⟩,by omega,rfl,rfl,rfl,rfl,trivial⟩
        · have hok:okK f y=false:=by simp[okK,d2,d3]
          rw[bad2 (by rw[←hnext,hok];rfl)]
          repeat'(first|(simp(disch:=first|omega|(simp only[zL];omega))only[go_sem,Nat.reduceEqDiff,↓reduceIte,Nat.reduceAdd,Nat.reduceMul,Nat.reduceSub,Nat.reduceLeDiff,Nat.reduceLT,Int.reduceToNat,Int.reduceLE,h1,xi9 hy]))
          exact⟨_,rfl,_,rfl,.refl _⟩
      · have hok:okK f y=false:=by simp[okK,d1,d2]
        rw[bad2 (by rw[←hnext,hok];rfl)]
        repeat'(first|(simp(disch:=first|omega|(simp only[zL];omega))only[go_sem,Nat.reduceEqDiff,↓reduceIte,Nat.reduceAdd,Nat.reduceMul,Nat.reduceSub,Nat.reduceLeDiff,Nat.reduceLT,Int.reduceToNat,Int.reduceLE,h1,xi9 hy]))
        exact⟨_,rfl,_,rfl,.refl _⟩
    · have hok:okK f y=true:=by simp[okK,d1]
      rw[hok,Bool.true_and]at hnext
      repeat'(first|(simp(disch:=first|omega|(simp only[zL];omega))only[go_sem,Nat.reduceEqDiff,↓reduceIte,Nat.reduceAdd,Nat.reduceMul,Nat.reduceSub,Nat.reduceLeDiff,Nat.reduceLT,Int.reduceToNat,Int.reduceLE,h1,xi9 hy]))
      exact⟨k+1,⟨by omega,hnext⟩,by omega,rfl,rfl,rfl,rfl,trivial⟩
  · have e:k=u.length:=by omega
    subst e;rw[List.drop_length]at hall;rw[←hall]at ht
    repeat'(first|(simp(disch:=first|omega|(simp only[zL];omega))only[go_sem,Nat.reduceEqDiff,↓reduceIte,Nat.reduceAdd,Nat.reduceMul,Nat.reduceSub,Nat.reduceLeDiff,Nat.reduceLT,Int.reduceToNat,Int.reduceLE,h1]))
    refine .vc (by decide) ?_
    repeat'(first|(simp(disch:=first|omega|(simp only[zL];omega))only[go_sem,Nat.reduceEqDiff,↓reduceIte,Nat.reduceAdd,Nat.reduceMul,Nat.reduceSub,Nat.reduceLeDiff,Nat.reduceLT,Int.reduceToNat,Int.reduceLE]))
    exact⟨i+1,⟨by omega,by rw[←ht];rfl⟩,by omega,rfl,rfl,rfl,trivial⟩
theorem H6(x:Nat→List Bytes):(List.range 8).all (fun f=>dK f (x f))=eu x:=by
 have h:∀f,dK f (x f)=(eR f (x f)&&(decide (f≠0)||decide ((x f).length=1))):=fun f=>rfl;have e:List.range 8=0::[1,2,3,4,5,6,7]:=rfl;unfold eu;rw[e];simp only[List.all_cons,List.all_nil,h];simp only[ne_eq,not_true_eq_false,decide_false,Bool.false_or,Nat.succ_ne_zero,not_false_eq_true,decide_true,Bool.true_or,Bool.and_true];cases eR 0 (x 0)<;>cases decide ((x 0).length=1)<;>simp
theorem qp(H:List OB)(id i:Nat)(c:List Val)(v:Val)(b:Bool)(h:H[id]? =some (.cells (c.map aF) b))(hv:c[i]? =some v):ao Tryz.prog 25 (.ptr id i) H=some (aF v):=by
 have hcu:(c.map aF)[i]? =some (aF v):=by simp[hv]
 rw[yo];simp only[ldC,h,hcu]
theorem vL(p:Nat→Bool){i n:Nat}(hi:i<n)(h:(List.range i).all p=true)(hp:p i=false):(List.range n).all p=false:=by
 rw[List.all_eq_false];exact⟨i,List.mem_range.2 hi,by simp[hp]⟩
theorem vM(p:Nat→Bool){i:Nat}(h:(List.range i).all p=true)(hp:p i=true):(List.range (i+1)).all p=true:=by
 rw[List.range_succ,List.all_append,h];simp[hp]
set_option maxRecDepth 8000 in
theorem BM(c:List Val)(hc:c.length=8):ad Tryz.prog 28 [.agg (c.map aF)] (.ret (.bool (eu (bR c)))):=by
 rw[←H6];obtain⟨b,hb⟩:∃b,b=(List.range 8).all (fun f=>dK f (bR c f)):=⟨_,rfl⟩
 rw[←hb];refine ad.of Tryz.func28 rfl (ab enters Tryz.func28 rfl) (by simp[Tryz.ntmps28]) ?_;show W Tryz.prog 14 0 none _ _ _;refine W.vc (by decide) ?_
 repeat'(first|(simp(disch:=first|omega|(simp only[zL];omega))only[go_sem,seval]))
 refine W.bc (X:=Nat) (fun i=>[(3,.int .i64 (i:Int)),(1,.ptr 0 0)]) (fun _=>[.cells (c.map aF) false]) (fun i=>i≤8∧(List.range i).all (fun f=>dK f (bR c f))=true) (fun i=>8 - i) 0 ⟨Nat.zero_le _,rfl⟩ ⟨rfl,rfl,trivial⟩ rfl ?_;rintro i ⟨hi,ht⟩;refine .vc (by decide) ?_;by_cases h:i<8
 ·obtain⟨v,hv⟩:∃v,c[i]? =some v:=⟨_,List.getElem?_eq_getElem (by omega)⟩
  have hia:∀H,ak Tryz.prog 27 (.ptr 0 0) (.int .i64 (i:Int)) H=some (.ptr 0 i):=iv 0 i h;have hld:=qp [.cells (c.map aF) false] 0 i c v false rfl hv;have hvr:ad Tryz.prog 66 [.int .i64 (i:Int),aF v] (.ret (.bool (dK i v.2))):=EP i h v.1 v.2;have hf:=iU c i v hv;cases hk:dK i v.2 with
  |true=>
   rw[hk]at hvr
   repeat'(first|(simp(disch:=first|omega|(simp only[zL];omega))only[go_sem,seval,hia,hld])|((with_reducible first|apply aj.pure|apply ar.pure);(with_reducible exact hvr);(first|rfl|simp only[go_sem,aF,az])))
   exact⟨i+1,⟨by omega,vM _ ht (by rw[hf];exact hk)⟩,by omega,rfl,rfl,trivial⟩
  |false=>
   rw[hk]at hvr;have e:b=false:=by rw[hb];exact vL _ h ht (by rw[hf];exact hk)
   rw[e]
   repeat'(first|(simp(disch:=first|omega|(simp only[zL];omega))only[go_sem,seval,hia,hld])|((with_reducible first|apply aj.pure|apply ar.pure);(with_reducible exact hvr);(first|rfl|simp only[go_sem,aF,az])))
   exact⟨_,rfl,_,rfl,.refl _⟩
 ·have e:i=8:=by omega
  subst e;have e:b=true:=by rw[hb];exact ht
  rw[e]
  repeat'(first|(simp(disch:=first|omega|(simp only[zL];omega))only[go_sem,seval]))
  exact⟨_,rfl,_,rfl,.refl _⟩
/-! ### Contacts held against contacts -/
def tQ(a b:List Val):Bool:=(List.range 8).all fun f=>bR a f==bR b f
def la(n:Nat):AV:=.int .i64 (n:Int)
def gy(a b:List Val)(n:Nat):List Nat:=(List.range n).filter fun f=>!(bR a f==bR b f)
theorem yM(a b:List Val)(n:Nat):gy a b (n+1)=gy a b n++(if bR a n==bR b n then []else [n]):=by
 unfold gy;rw[List.range_succ,List.filter_append];cases h:bR a n==bR b n<;>simp[h]
theorem yN(a b:List Val):decide ((gy a b 8).length=0)=tQ a b:=by
 unfold gy tQ;rw[Bool.eq_iff_iff];simp only[decide_eq_true_eq,List.length_eq_zero_iff,List.filter_eq_nil_iff,List.all_eq_true,Bool.not_eq_true',Bool.not_eq_false]
theorem BN(a b:List Val)(n:Nat):(gy a b n).length≤n:=by
 have:=List.length_filter_le (fun f=>!(bR a f==bR b f)) (List.range n);simpa[gy]using this
theorem apI:apT Tryz.prog 3=some (1,0,8):=by kernel_rfl
theorem BO(l:List Nat):(l.map la).all AV.one=true:=by
 rw[List.all_eq_true];intro v hv;obtain⟨r,_,rfl⟩:=List.mem_map.1 hv;rfl
theorem BP(l:List Nat):AV.hfs (l.map la)=true:=by
 rw[aR,List.all_eq_true];intro v hv;obtain⟨r,_,rfl⟩:=List.mem_map.1 hv;rfl
set_option maxRecDepth 8000 in
theorem ER(a b:List Val)(ha:a.length=8)(hb:b.length=8):ad Tryz.prog 38 [.agg (a.map aF),.agg (b.map aF)] (.ret (.vsl 0 false ((gy a b 8).map la))):=by
 refine ad.of Tryz.func38 rfl (ab enters Tryz.func38 rfl) (by simp[Tryz.ntmps38]) ?_;show W Tryz.prog 24 0 none _ _ _;refine W.vc (by decide) ?_
 repeat'(first|(simp(disch:=first|omega|(simp only[zL];omega))only[go_sem,seval]))
 refine W.bc (X:=Nat×Nat×Bool) (fun y=>[(6,.int .i64 (y.1:Int)),(5,bp 2 0 0 la y.2.1 y.2.2 (gy a b y.1)),(2,.ptr 0 0),(3,.ptr 1 0)]) (fun y=>mem [.cells (a.map aF) false,.cells (b.map aF) false] la y.2.1 0 y.2.2 (gy a b y.1)) (fun y=>y.1≤8∧(y.2.2=false→gy a b y.1=[])) (fun y=>8 - y.1) (0,0,false) ⟨Nat.zero_le _,fun _=>rfl⟩ ⟨rfl,rfl,rfl,rfl,trivial⟩ rfl ?_;rintro⟨i,k,z⟩ ⟨hi,hz⟩;simp only at hi hz ⊢;refine .vc (by decide) ?_;obtain⟨M,hM⟩:∃M,M=mem [.cells (a.map aF) false,.cells (b.map aF) false] la k 0 z (gy a b i):=⟨_,rfl⟩
 have m0:M[0]? =some (.cells (a.map aF) false):=by rw[hM,dw (by simp)];rfl
 have m1:M[1]? =some (.cells (b.map aF) false):=by rw[hM,dw (by simp)];rfl
 have hde:deN (bp 2 0 0 la k z (gy a b i))=bp 2 0 0 la k z (gy a b i):=eC _ _ _ _ _ _ _;rw[←hM];by_cases h:i<8
 ·obtain⟨u,hu⟩:∃v,a[i]? =some v:=⟨_,List.getElem?_eq_getElem (by omega)⟩
  obtain⟨v,hv⟩:∃v,b[i]? =some v:=⟨_,List.getElem?_eq_getElem (by omega)⟩
  have hia:∀id H,ak Tryz.prog 27 (.ptr id 0) (.int .i64 (i:Int)) H=some (.ptr id i):=fun id=>iv id i h;have hl0:=qp M 0 i a u false m0 hu;have hl1:=qp M 1 i b v false m1 hv;have htx:ad Tryz.prog 77 [aF u,aF v] (.ret (.bool (u.2==v.2))):=H5 u.1 v.1 u.2 v.2;have hfa:=iU a i u hu;have hfb:=iU b i v hv;have hsc:=yM a b i;rw[hfa,hfb]at hsc;cases hk:(u.2==v.2)with
  |true=>
   rw[hk]at htx hsc;simp only[if_true,List.append_nil]at hsc
   repeat'(first|(simp(disch:=first|omega|(simp only[zL];omega))only[go_sem,seval]))
   refine W.bw [6] [false,false,false,false,false,false,true,false] [] mixed (by kernel_rfl) (by kernel_rfl) (by kernel_rfl) ?_
   repeat'(first|(simp(disch:=first|omega|(simp only[zL];omega))only[go_sem,seval,hia,hl0,hl1])|((with_reducible first|apply aj.pure|apply ar.pure);(with_reducible exact htx);(first|rfl|simp only[go_sem,aF,az])))
   exact⟨(i+1,k,z),⟨by simp only;omega,by simp only;rw[hsc];exact hz⟩,by simp only;omega,⟨rfl,by simp only[Av.get,Nat.reduceEqDiff,↓reduceIte];rw[hsc],rfl,rfl,trivial⟩,by simp only;rw[hsc];exact hM⟩
  | false=>
   rw[hk]at htx hsc;simp only[Bool.false_eq_true,if_false]at hsc;have hap:=iM (wd:=0) (w0:=0) (bytes:=8) Tryz.underlying64 apI la (fun _=>rfl) (fun _=>rfl) (by decide) [.cells (a.map aF) false,.cells (b.map aF) false] k z (gy a b i) (fun _=>.inl rfl) i true (by have:=BN a b i;omega);rw[←hM,←hsc]at hap;have hap:aE Tryz.prog 64 64 (bp 2 0 0 la k z (gy a b i)) (.vsl 0 true [.int .i64 (i:Int)]) M=some (bp 2 0 0 la (if z then k+1 else k) true (gy a b (i+1)),mem [.cells (a.map aF) false,.cells (b.map aF) false] la (if z then k+1 else k) 0 true (gy a b (i+1))):=hap
   have hbs:au Tryz.prog 64 1 [(0,.int .i64 (i:Int))]=some (.vsl 0 true [.int .i64 (i:Int)]):=by
    simp[au,Tryz.underlying64,apI,AV.cells,AV.told,List.range']
   repeat'(first|(simp(disch:=first|omega|(simp only[zL];omega))only[go_sem,seval]))
   refine W.bw [6] [false,false,false,false,false,false,true,false] [] mixed (by kernel_rfl) (by kernel_rfl) (by kernel_rfl) ?_
   repeat'(first|(simp(disch:=first|omega|(simp only[zL];omega))only[go_sem,seval,hia,hl0,hl1,hbs,hde,hap])|((with_reducible first|apply aj.pure|apply ar.pure);(with_reducible exact htx);(first|rfl|simp only[go_sem,aF,az])))
   exact⟨(i+1,if z then k+1 else k,true),⟨by simp only;omega,(fun h=>by cases h)⟩,by simp only;omega,⟨rfl,rfl,rfl,rfl,trivial⟩,rfl⟩
 ·have e:i=8:=by omega
  subst e
  repeat'(first|(simp(disch:=first|omega|(simp only[zL];omega))only[go_sem,seval]))
  obtain⟨w,hz2,hw⟩:=ia (B:=[.cells (a.map aF) false,.cells (b.map aF) false]) (f:=la) (w0:=0) (k:=k) (z:=z) (L:=gy a b 8) (n:=19) (M:=M) (fun hz=>by subst hz;rw[hM];exact dR) (BP _) (BO _);exact kI 4 rfl rfl rfl hz2 (by rcases hw with rfl|rfl<;>first|exact .exact _ _ _|exact .refl _)
theorem xy(a b:List Val)(ha:a.length=8)(hb:b.length=8):ad Tryz.prog 17 [.agg (a.map aF),.agg (b.map aF)] (.ret (.bool (tQ a b))):=by
 have hd:=ER a b ha hb;have hld:∀(id:Nat) (c:List Val) (H:List OB),c.length=8→H[id]? =some (.cells (c.map aF) false)→ao Tryz.prog 27 (.ptr id 0) H=some (.agg (c.map aF)):=by
  intro id c H hc h;simp[ao,Dd,Gz,ldA,hc,h];exact List.take_of_length_le (by simp[hc])
 have h0:=hld 0 a [.cells (a.map aF) false,.cells (b.map aF) false] ha rfl;have h1:=hld 1 b [.cells (a.map aF) false,.cells (b.map aF) false] hb rfl;have hs:=yN a b;obtain⟨n,hn⟩:∃n,n=(gy a b 8).length:=⟨_,rfl⟩
 have hln:∀H,aI Tryz.prog 64 (.vsl 0 false ((gy a b 8).map la)) H=some (.int .i64 (n:Int)):=by intro H;simp[aI,Tryz.underlying64,hn]
 rw[←hn]at hs;by_cases q:n=0
 case pos=>
  rw[decide_eq_true q]at hs;rw[←hs];subst q;refine ad.of Tryz.func17 rfl (ab enters Tryz.func17 rfl) (by simp[Tryz.ntmps17]) ?_;show W Tryz.prog 10 0 none _ _ _;refine W.vc (by decide) ?_
  repeat'(first|(simp(disch:=first|omega|(simp only[zL];omega))only[go_sem,seval,h0,h1,hln])|((with_reducible first|apply aj.pure|apply ar.pure);(with_reducible exact hd);(first|rfl|simp only[go_sem,br])))
  exact⟨_,rfl,_,rfl,.refl _⟩
 case neg=>
  rw[decide_eq_false q]at hs;rw[←hs];refine ad.of Tryz.func17 rfl (ab enters Tryz.func17 rfl) (by simp[Tryz.ntmps17]) ?_;show W Tryz.prog 10 0 none _ _ _;refine W.vc (by decide) ?_
  repeat'(first|(simp(disch:=first|omega|(simp only[zL];omega))only[go_sem,seval,h0,h1,hln])|((with_reducible first|apply aj.pure|apply ar.pure);(with_reducible exact hd);(first|rfl|simp only[go_sem,br])))
  exact⟨_,rfl,_,rfl,.refl _⟩
theorem slB{s:Bytes}{i:Nat}{x:UInt8}(h:s[i]? =some x):aM Tryz.prog 9 (.str s) (some (.int .i64 (i:Int))) (some (.int .i64 ((i+1:Nat):Int))) none=some (.str [x]):=by
 have hl:=(List.getElem?_eq_some_iff.1 h).1;obtain⟨y,hy,hd⟩:=drop_at hl;rw[h]at hy;cases hy;rw[ss9,en _ _ _ _ (by omega) (by omega)];simp[hd]
theorem gu{x:UInt8}(c:UInt8)(h:x.toNat≠c.toNat):x≠c:=fun e=>h (by rw[e])
theorem gv{x:UInt8}(c:UInt8)(h:x.toNat=c.toNat):x=c:=UInt8.toNat_inj.1 h
set_option maxRecDepth 8000 in
theorem MQ(s:Bytes)(hs:s.length≤1000000):ad Tryz.prog 79 [.str s] (.ret (.str (esc s))):=by
 have hel:=ni s;refine ad.of Tryz.func79 rfl (ab enters Tryz.func79 rfl) (by simp[Tryz.ntmps79]) ?_;show W Tryz.prog 38 0 none _ _ _;refine W.vc (by decide) ?_
 repeat'(first|(simp(disch:=first|omega|(simp only[zL];omega))only[go_sem,seval]))
 refine W.bc (X:=Nat) (fun i=>[(4,.int .i64 (i:Int)),(3,.str (esc (s.take i))),(0,.str s)]) (fun _=>[]) (fun i=>i≤s.length) (fun i=>s.length - i) 0 (Nat.zero_le _) ⟨rfl,rfl,rfl,trivial⟩ rfl ?_;intro i hi;refine .vc (by decide) ?_;by_cases h:i<s.length
 ·obtain⟨x,hx,hdrop⟩:=drop_at h
  have htk:=tJ hx;have hle:=mH s i;have hsl:=slB hx;by_cases h1:x.toNat=92
  ·have e:jW x=[92,x]:=by have:=gv 92 h1;subst this;rfl
   rw[e]at htk
   repeat'(first|(simp(disch:=first|omega|(simp only[zL];omega))only[go_sem,seval,xi9 hx,hsl]))
   exact⟨i+1,by omega,by omega,⟨rfl,by rw[htk];simp[Av.get],rfl,trivial⟩⟩
  by_cases h2:x.toNat=44
  ·have e:jW x=[92,x]:=by have:=gv 44 h2;subst this;rfl
   rw[e]at htk
   repeat'(first|(simp(disch:=first|omega|(simp only[zL];omega))only[go_sem,seval,xi9 hx,hsl]))
   exact⟨i+1,by omega,by omega,⟨rfl,by rw[htk];simp[Av.get],rfl,trivial⟩⟩
  by_cases h3:x.toNat=59
  ·have e:jW x=[92,x]:=by have:=gv 59 h3;subst this;rfl
   rw[e]at htk
   repeat'(first|(simp(disch:=first|omega|(simp only[zL];omega))only[go_sem,seval,xi9 hx,hsl]))
   exact⟨i+1,by omega,by omega,⟨rfl,by rw[htk];simp[Av.get],rfl,trivial⟩⟩
  by_cases h4:x.toNat=10
  ·have e:jW x=[92,110]:=by have:=gv 10 h4;subst this;rfl
   rw[e]at htk
   repeat'(first|(simp(disch:=first|omega|(simp only[zL];omega))only[go_sem,seval,xi9 hx]))
   exact⟨i+1,by omega,by omega,⟨rfl,by rw[htk];simp[Av.get],rfl,trivial⟩⟩
  ·have e:jW x=[x]:=by
    have e1:=gu 92 h1;have e2:=gu 44 h2;have e3:=gu 59 h3;have e4:=gu 10 h4;unfold jW;rw[if_neg,if_neg e4];rintro(e|e|e)
    ·exact e1 e
    ·exact e2 e
    ·exact e3 e
   rw[e]at htk
   repeat'(first|(simp(disch:=first|omega|(simp only[zL];omega))only[go_sem,seval,xi9 hx,hsl]))
   exact⟨i+1,by omega,by omega,⟨rfl,by rw[htk];simp[Av.get],rfl,trivial⟩⟩
 ·have e:i=s.length:=by omega
  subst e;rw[List.take_length]
  repeat'(first|(simp(disch:=first|omega|(simp only[zL];omega))only[go_sem,seval]))
  exact⟨_,rfl,_,rfl,.refl _⟩
set_option maxRecDepth 8000 in
theorem mb(s:Bytes)(hs:s.length≤1000000):ad Tryz.prog 75 [.str s] (.ret (.str (cH s))):=by
 refine ad.of Tryz.func75 rfl (ab enters Tryz.func75 rfl) (by simp[Tryz.ntmps75]) ?_;show W Tryz.prog 51 0 none _ _ _;refine W.vc (by decide) ?_
 repeat'(first|(simp(disch:=first|omega|(simp only[zL];omega))only[go_sem,seval]))
 refine W.bc (X:=Nat×Bytes) (fun y=>[(4,.int .i64 (y.1:Int)),(3,.str y.2),(0,.str s)]) (fun _=>[]) (fun y=>y.1≤s.length∧y.2++cH (s.drop y.1)=cH s∧y.2.length≤y.1) (fun y=>s.length - y.1) (0,[]) ⟨Nat.zero_le _,rfl,Nat.zero_le _⟩ ⟨rfl,rfl,rfl,trivial⟩ rfl ?_;rintro⟨i,o⟩ ⟨l1,l2,l3⟩;simp only at l1 l2 l3 ⊢;refine .vc (by decide) ?_;by_cases h:i<s.length
 ·obtain⟨x,hx,hdrop⟩:=drop_at h
  have hsl:=slB hx;rw[hdrop]at l2;by_cases h1:x.toNat=92
  ·have e1:x=92:=gv 92 h1
   by_cases h2:i+1<s.length
   ·obtain⟨y,hy,hd1⟩:=drop_at h2
    have hsl1:=slB hy;rw[e1,hd1,tM]at l2;by_cases h3:y.toNat=110
    ·have e2:unn y=10:=by have:=gv 110 h3;subst this;rfl
     rw[e2]at l2
     repeat'(first|(simp(disch:=first|omega|(simp only[zL];omega))only[go_sem,seval,xi9 hx,xi9 hy]))
     exact⟨(i+2,o++[10]),⟨by simp only;omega,by simpa using l2,by simp;omega⟩,by simp only;omega,⟨rfl,rfl,rfl,trivial⟩⟩
    by_cases h4:y.toNat=78
    ·have e2:unn y=10:=by have:=gv 78 h4;subst this;rfl
     rw[e2]at l2
     repeat'(first|(simp(disch:=first|omega|(simp only[zL];omega))only[go_sem,seval,xi9 hx,xi9 hy]))
     exact⟨(i+2,o++[10]),⟨by simp only;omega,by simpa using l2,by simp;omega⟩,by simp only;omega,⟨rfl,rfl,rfl,trivial⟩⟩
    ·have e2:unn y=y:=by
      have e3:=gu 110 h3;have e4:=gu 78 h4;unfold unn;rw[if_neg];rintro(e|e)
      ·exact e3 e
      ·exact e4 e
     rw[e2]at l2
     repeat'(first|(simp(disch:=first|omega|(simp only[zL];omega))only[go_sem,seval,xi9 hx,xi9 hy,hsl1]))
     exact⟨(i+2,o++[y]),⟨by simp only;omega,by simpa using l2,by simp;omega⟩,by simp only;omega,⟨rfl,rfl,rfl,trivial⟩⟩
   ·have hd1:s.drop (i+1)=[]:=List.drop_of_length_le (by omega)
    rw[hd1,qk]at l2
    repeat'(first|(simp(disch:=first|omega|(simp only[zL];omega))only[go_sem,seval,xi9 hx,hsl]))
    exact⟨(i+1,o++[x]),⟨by simp only;omega,by simp[hd1,cH];exact l2,by simp;omega⟩,by simp only;omega,⟨rfl,rfl,rfl,trivial⟩⟩
  ·rw[tO (gu 92 h1)]at l2
   repeat'(first|(simp(disch:=first|omega|(simp only[zL];omega))only[go_sem,seval,xi9 hx,hsl]))
   exact⟨(i+1,o++[x]),⟨by simp only;omega,by simpa using l2,by simp;omega⟩,by simp only;omega,⟨rfl,rfl,rfl,trivial⟩⟩
 ·have e:i=s.length:=by omega
  subst e;rw[List.drop_length,cH,List.append_nil]at l2
  repeat'(first|(simp(disch:=first|omega|(simp only[zL];omega))only[go_sem,seval]))
  rw[l2];exact⟨_,rfl,_,rfl,.refl _⟩
def mk(c:Bool):UInt8:=if c then 44 else 59
theorem rS(u:Bytes)(hs:u.length≤1000000){out:List Bytes}(ho:out.length≤1000001)(z:Bool)(k:Nat)(hz:z=false→out=[])(x:Bytes):aE Tryz.prog 25 25 (bp 0 0 0 AV.str k z out) (.vsl 0 true [.str x]) (mem [] AV.str k 0 z out)=some (bp 0 0 0 AV.str (if z then k+1 else k) true (out++[x]),mem [] AV.str (if z then k+1 else k) 0 true (out++[x])):=
 iM (wd:=0) (bytes:=16) Tryz.underlying25 gH AV.str (fun _=>rfl) (fun _=>rfl) (by decide) [] k z out (fun h=>.inl rfl) x true (by omega)
theorem rU{s:Bytes}{fr i:Nat}{x:UInt8}(h1:fr≤i)(h:s[i]? =some x):(s.drop fr).take (i+1 - fr)=(s.drop fr).take (i - fr)++[x]:=by
 rw[show i+1 - fr=(i - fr)+1 from by omega,List.take_add_one,List.getElem?_drop,show fr+(i - fr)=i from by omega,h];rfl
set_option maxRecDepth 8000 in
theorem H7(s:Bytes)(c:Bool)(hs:s.length≤1000000):ad Tryz.prog 123 [.str s,.bool c] (.ret (.vsl 0 false ((ei (mk c) s).map .str))):=by
 refine ad.of Tryz.func123 rfl (ab enters Tryz.func123 rfl) (by simp[Tryz.ntmps123]) ?_;show W Tryz.prog 55 0 none _ _ _;refine W.vc (by decide) ?_;have hb1:=ma;have hm92:mk c≠92:=by cases c<;>decide
 repeat'(first|(simp(disch:=first|omega|(simp only[zL];omega))only[go_sem,seval]))
 refine W.bc (X:=Nat×Nat×Bool×Nat×Bool×List Bytes) (fun x=>[(8,.int .i64 (x.1:Int)),(6,.int .i64 (x.2.1:Int)),(7,.bool x.2.2.1),(5,bp 0 0 0 AV.str x.2.2.2.1 x.2.2.2.2.1 x.2.2.2.2.2),(0,.str s),(1,.bool c)]) (fun x=>mem [] AV.str x.2.2.2.1 0 x.2.2.2.2.1 x.2.2.2.2.2)
  (fun x=>x.1≤s.length∧x.2.1≤x.1∧x.2.2.2.2.2++bu (mk c) x.2.2.1 ((s.drop x.2.1).take (x.1 - x.2.1)) (s.drop x.1)=ei (mk c) s∧(x.2.2.2.2.1=false→x.2.2.2.2.2=[])∧x.2.2.2.2.2.length≤x.1) (fun x=>s.length - x.1) (0,0,false,0,false,[]) ⟨Nat.zero_le _,Nat.le_refl _,rfl,fun _=>rfl,Nat.le_refl _⟩ ⟨rfl,rfl,rfl,rfl,rfl,rfl,trivial⟩ rfl ?_
 rintro⟨i,fr,t,k,z,out⟩ ⟨l1,l2,l3,l4,l5⟩;simp only at l1 l2 l3 l4 l5 ⊢;have hde:deN (bp 0 0 0 AV.str k z out)=bp 0 0 0 AV.str k z out:=eC _ _ _ _ _ _ _;refine .vc (by decide) ?_;by_cases h:i<s.length
 ·obtain⟨x,hx,hdrop⟩:=drop_at h
  have hcur:=rU l2 hx;rw[hdrop]at l3;cases t with
  |true=>
   rw[bu]at l3
   repeat'(first|(simp(disch:=first|omega|(simp only[zL];omega))only[go_sem,seval]))
   exact⟨(i+1,fr,false,k,z,out),⟨by simp only;omega,by simp only;omega,by simp only;rw[hcur];exact l3,l4,by simp only;omega⟩,by simp only;omega,⟨rfl,rfl,rfl,rfl,rfl,rfl,trivial⟩,rfl⟩
  | false=>
   rw[bu]at l3;by_cases h1:x.toNat=92
   ·rw[if_pos (gv 92 h1)]at l3
    repeat'(first|(simp(disch:=first|omega|(simp only[zL];omega))only[go_sem,seval,xi9 hx]))
    exact⟨(i+1,fr,true,k,z,out),⟨by simp only;omega,by simp only;omega,by simp only;rw[hcur];exact l3,l4,by simp only;omega⟩,by simp only;omega,⟨rfl,rfl,rfl,rfl,rfl,rfl,trivial⟩,rfl⟩
   rw[if_neg (gu 92 h1)]at l3;have hsl:aM Tryz.prog 9 (.str s) (some (.int .i64 (fr:Int))) (some (.int .i64 (i:Int))) none=some (.str ((s.drop fr).take (i - fr))):=by
    rw[ss9,en _ _ _ _ l2 (by omega)];rfl
   have ha:=rS s hs (show out.length≤1000001 by omega) z k l4 ((s.drop fr).take (i - fr));have hit:x=mk c→∃y:Nat×Nat×Bool×Nat×Bool×List Bytes,(y.1≤s.length∧y.2.1≤y.1∧y.2.2.2.2.2++bu (mk c) y.2.2.1 ((s.drop y.2.1).take (y.1 - y.2.1)) (s.drop y.1)=ei (mk c) s∧(y.2.2.2.2.1=false→y.2.2.2.2.2=[])∧y.2.2.2.2.2.length≤y.1)∧y=(i+1,i+1,false,(if z then k+1 else k),true,out++[(s.drop fr).take (i - fr)]):=by
    intro e;rw[if_pos e]at l3;exact⟨_,⟨by simp only;omega,Nat.le_refl _,by simp only[Nat.sub_self,List.take_zero];rw[←l3];simp,(fun h=>by cases h),by simp only[List.length_append,List.length_cons,List.length_nil];omega⟩,rfl⟩
   have miss:x≠mk c→∃y:Nat×Nat×Bool×Nat×Bool×List Bytes,(y.1≤s.length∧y.2.1≤y.1∧y.2.2.2.2.2++bu (mk c) y.2.2.1 ((s.drop y.2.1).take (y.1 - y.2.1)) (s.drop y.1)=ei (mk c) s∧(y.2.2.2.2.1=false→y.2.2.2.2.2=[])∧y.2.2.2.2.2.length≤y.1)∧y=(i+1,fr,false,k,z,out):=by
    intro e;rw[if_neg e]at l3;exact⟨_,⟨by simp only;omega,by simp only;omega,by simp only;rw[hcur];exact l3,l4,by simp only;omega⟩,rfl⟩
   cases c with
   | true=>
    by_cases h2:x.toNat=44
    ·obtain⟨y,hy,e⟩:=hit (gv 44 h2)
     subst e
     repeat'(first|(simp(disch:=first|omega|(simp only[zL];omega))only[go_sem,seval,xi9 hx,hsl,hb1,ha,hde]))
     exact⟨_,hy,by simp only;omega,⟨rfl,rfl,rfl,rfl,rfl,rfl,trivial⟩,rfl⟩
    ·obtain⟨y,hy,e⟩:=miss (gu 44 h2)
     subst e
     repeat'(first|(simp(disch:=first|omega|(simp only[zL];omega))only[go_sem,seval,xi9 hx]))
     exact⟨_,hy,by simp only;omega,⟨rfl,rfl,rfl,rfl,rfl,rfl,trivial⟩,rfl⟩
   | false=>
    by_cases h2:x.toNat=59
    ·obtain⟨y,hy,e⟩:=hit (gv 59 h2)
     subst e
     repeat'(first|(simp(disch:=first|omega|(simp only[zL];omega))only[go_sem,seval,xi9 hx,hsl,hb1,ha,hde]))
     exact⟨_,hy,by simp only;omega,⟨rfl,rfl,rfl,rfl,rfl,rfl,trivial⟩,rfl⟩
    ·obtain⟨y,hy,e⟩:=miss (gu 59 h2)
     subst e
     repeat'(first|(simp(disch:=first|omega|(simp only[zL];omega))only[go_sem,seval,xi9 hx]))
     exact⟨_,hy,by simp only;omega,⟨rfl,rfl,rfl,rfl,rfl,rfl,trivial⟩,rfl⟩
 ·have e:i=s.length:=by omega
  subst e;rw[List.drop_length,List.take_of_length_le (by simp)]at l3;have l3:out++[s.drop fr]=ei (mk c) s:=by
   cases t<;>simpa[bu]using l3
  have hsl:aM Tryz.prog 9 (.str s) (some (.int .i64 (fr:Int))) none none=some (.str (s.drop fr)):=by
   rw[ss9,bn _ _ (by omega)];simp only[Option.map_some,cL]
  have ha:=rS s hs (show out.length≤1000001 by omega) z k l4 (s.drop fr)
  repeat'(first|(simp(disch:=first|omega|(simp only[zL];omega))only[go_sem,seval,hsl,hb1,ha,hde]))
  obtain⟨w,hz,hw⟩:=ia (B:=[]) (f:=AV.str) (w0:=0) (k:=if z then k+1 else k) (z:=true) (L:=out++[s.drop fr]) (n:=19) (M:=mem [] AV.str (if z then k+1 else k) 0 true (out++[s.drop fr])) (fun _=>dR) (az _) (di _);rw[←l3];exact kI 4 rfl rfl rfl hz (by rcases hw with rfl|rfl<;>first|exact .exact _ _ _|exact .refl _)
set_option maxRecDepth 8000 in
theorem H8(s:Bytes)(hs:s.length≤1000000):ad Tryz.prog 71 [.str s] (.ret (.str (cH s))):=by
 refine ad.of Tryz.func71 rfl (ab enters Tryz.func71 rfl) (by simp[Tryz.ntmps71]) ?_;show W Tryz.prog 41 0 none _ _ _;refine W.vc (by decide) ?_
 repeat'(first|(simp(disch:=first|omega|(simp only[zL];omega))only[go_sem,seval]))
 refine W.bc (X:=Nat×Nat×Bool×Bytes) (fun x=>[(4,.int .i64 (x.1:Int)),(3,byV x.2.1 x.2.2.1 x.2.2.2),(0,.str s)]) (fun x=>byM x.2.1 x.2.2.1 x.2.2.2)
  (fun x=>x.1≤s.length∧x.2.2.2++cH (s.drop x.1)=cH s∧(x.2.2.1=false→x.2.2.2=[])∧x.2.2.2.length≤x.1) (fun x=>s.length - x.1) (0,0,false,[]) ⟨Nat.zero_le _,rfl,fun _=>rfl,Nat.le_refl _⟩ (by simp[aC,Av.get,byV,bp]) rfl ?_
 rintro⟨i,k,z,L⟩ ⟨l1,l2,l3,l4⟩;simp only at l1 l2 l3 l4 ⊢;refine .vc (by decide) ?_;have hde:deN (byV k z L)=byV k z L:=eC _ _ _ _ _ _ _;by_cases h:i<s.length
 ·obtain⟨x,hx,hdrop⟩:=drop_at h
  rw[hdrop]at l2;obtain⟨kx,hbx⟩:=jr k z L x true (by omega) l3;have hbs:=EM x;by_cases h1:x.toNat=92
  ·have e1:x=92:=gv 92 h1
   by_cases h2:i+1<s.length
   ·obtain⟨y,hy,hd1⟩:=drop_at h2
    rw[e1,hd1,tM]at l2;obtain⟨k2,hb⟩:=jr k z L (unn y) true (by omega) l3;have hbu:=EM (unn y);by_cases h3:y.toNat=110
    ·have e2:unn y=10:=by have:=gv 110 h3;subst this;rfl
     rw[e2]at l2 hb hbu;have hbu:au Tryz.prog 108 1 [(0,.int .u8 10)]=some (.vsl 0 true [aS 10]):=hbu
     repeat'(first|(simp(disch:=first|omega|(simp only[zL];omega))only[go_sem,seval,xi9 hx,xi9 hy,hbu,hde,hb]))
     exact⟨(i+2,k2,true,L++[10]),⟨by simp only;omega,by simpa using l2,(fun h=>by cases h),by simp;omega⟩,by simp only;omega,⟨rfl,rfl,rfl,trivial⟩,rfl⟩
    by_cases h4:y.toNat=78
    ·have e2:unn y=10:=by have:=gv 78 h4;subst this;rfl
     rw[e2]at l2 hb hbu;have hbu:au Tryz.prog 108 1 [(0,.int .u8 10)]=some (.vsl 0 true [aS 10]):=hbu
     repeat'(first|(simp(disch:=first|omega|(simp only[zL];omega))only[go_sem,seval,xi9 hx,xi9 hy,hbu,hde,hb]))
     exact⟨(i+2,k2,true,L++[10]),⟨by simp only;omega,by simpa using l2,(fun h=>by cases h),by simp;omega⟩,by simp only;omega,⟨rfl,rfl,rfl,trivial⟩,rfl⟩
    ·have e2:unn y=y:=by
      have e3:=gu 110 h3;have e4:=gu 78 h4;unfold unn;rw[if_neg];rintro(e|e)
      ·exact e3 e
      ·exact e4 e
     rw[e2]at l2 hb hbu
     repeat'(first|(simp(disch:=first|omega|(simp only[zL];omega))only[go_sem,seval,xi9 hx,xi9 hy,hbu,hde,hb]))
     exact⟨(i+2,k2,true,L++[y]),⟨by simp only;omega,by simpa using l2,(fun h=>by cases h),by simp;omega⟩,by simp only;omega,⟨rfl,rfl,rfl,trivial⟩,rfl⟩
   ·have hd1:s.drop (i+1)=[]:=List.drop_of_length_le (by omega)
    rw[hd1,qk]at l2
    repeat'(first|(simp(disch:=first|omega|(simp only[zL];omega))only[go_sem,seval,xi9 hx,hbs,hde,hbx]))
    exact⟨(i+1,kx,true,L++[x]),⟨by simp only;omega,by simp[hd1,cH];exact l2,(fun h=>by cases h),by simp;omega⟩,by simp only;omega,⟨rfl,rfl,rfl,trivial⟩,rfl⟩
  ·rw[tO (gu 92 h1)]at l2
   repeat'(first|(simp(disch:=first|omega|(simp only[zL];omega))only[go_sem,seval,xi9 hx,hbs,hde,hbx]))
   exact⟨(i+1,kx,true,L++[x]),⟨by simp only;omega,by simpa using l2,(fun h=>by cases h),by simp;omega⟩,by simp only;omega,⟨rfl,rfl,rfl,trivial⟩,rfl⟩
 ·have e:i=s.length:=by omega
  subst e;rw[List.drop_length,cH,List.append_nil]at l2;have hcv:=vJ k z L l3
  repeat'(first|(simp(disch:=first|omega|(simp only[zL];omega))only[go_sem,seval,hcv]))
  rw[←l2];exact⟨_,rfl,_,rfl,.refl _⟩
theorem fU(m:UInt8)(b:Bool)(cur:Bytes):bu m b cur []=[cur]:=by cases b<;>rfl
set_option maxRecDepth 8000 in
theorem BQ(s:Bytes)(c:Bool)(hs:s.length≤1000000):ba Tryz.prog 119 [.str s,.bool c] [] (eD (ei (mk c) s)):=by
 refine ba.of0 Tryz.func119 rfl (ab enters Tryz.func119 rfl) (by simp[Tryz.ntmps119]) ?_;show W Tryz.prog 41 0 none _ _ _;have hb1:=ma;have hm92:mk c≠92:=by cases c<;>decide
 refine .seq (.vc (by decide) ?_)
 repeat'(first|(simp(disch:=first|omega|(simp only[zL];omega))only[go_sem,seval]))
 refine .seq (.vc (by decide) ?_)
 repeat'(first|(simp(disch:=first|omega|(simp only[zL];omega))only[go_sem,seval]))
 refine W.gX [(5,.int .u8 (mk c).toNat),(0,.str s)] [] (.vc (by decide) ?_) ?_
 ·cases c
  ·repeat'(first|(simp(disch:=first|omega|(simp only[zL];omega))only[go_sem,seval]))
   exact⟨rfl,rfl,trivial⟩
  ·repeat'(first|(simp(disch:=first|omega|(simp only[zL];omega))only[go_sem,seval]))
   exact⟨rfl,rfl,trivial⟩
 obtain⟨m,hm⟩:∃m,m=mk c:=⟨_,rfl⟩
 rw[←hm]at hm92 ⊢;refine .vc (by decide) ?_
 repeat'(first|(simp(disch:=first|omega|(simp only[zL];omega))only[go_sem,seval]))
 refine W.bc (X:=Nat×Nat×Nat×Bool×List Bytes) (fun x=>[(8,.int .i64 (x.1:Int)),(7,.int .i64 (x.2.1:Int)),(6,bp 0 0 0 AV.str x.2.2.1 x.2.2.2.1 x.2.2.2.2),(0,.str s),(5,.int .u8 m.toNat)]) (fun x=>mem [] AV.str x.2.2.1 0 x.2.2.2.1 x.2.2.2.2)
  (fun x=>x.1≤s.length+1∧x.2.1≤x.1∧x.2.1≤s.length∧x.2.2.2.2++bu m false ((s.drop x.2.1).take (x.1 - x.2.1)) (s.drop x.1)=ei m s∧(x.2.2.2.1=false→x.2.2.2.2=[])∧x.2.2.2.2.length≤x.2.1) (fun x=>s.length+1 - x.1) (0,0,0,false,[]) ⟨Nat.zero_le _,Nat.le_refl _,Nat.zero_le _,rfl,fun _=>rfl,Nat.le_refl _⟩ ⟨rfl,rfl,rfl,rfl,rfl,trivial⟩ rfl ?_
 rintro⟨i,fr,k,z,out⟩ ⟨l1,l2,l6,l3,l4,l5⟩;simp only at l1 l2 l3 l4 l5 l6 ⊢;have hde:deN (bp 0 0 0 AV.str k z out)=bp 0 0 0 AV.str k z out:=eC _ _ _ _ _ _ _;refine .vc (by decide) ?_;by_cases h:i<s.length
 ·obtain⟨x,hx,hdrop⟩:=drop_at h
  have hcur:=rU l2 hx;rw[hdrop]at l3;by_cases h1:x.toNat=92
  ·have e1:=gv 92 h1
   have hnext:out++bu m false ((s.drop fr).take (i+2 - fr)) (s.drop (i+2))=ei m s:=by
    by_cases h2:i+1<s.length
    ·obtain⟨y,hy,hd1⟩:=drop_at h2
     rw[hd1,e1]at l3;have:bu m false ((s.drop fr).take (i - fr)) (92::y::s.drop (i+1+1))=_:=vE m _ y _;rw[this]at l3;rw[rU (by omega) hy,hcur,e1];simpa using l3
    ·have hd1:s.drop (i+1)=[]:=List.drop_of_length_le (by omega)
     have hd2:s.drop (i+2)=[]:=List.drop_of_length_le (by omega);rw[hd1,bu,if_pos e1,fU]at l3;rw[hd2,fU,←l3,←hcur,List.take_of_length_le (by simp;omega),List.take_of_length_le (by simp;omega)]
   repeat'(first|(simp(disch:=first|omega|(simp only[zL];omega))only[go_sem,seval,xi9 hx]))
   exact⟨(i+2,fr,k,z,out),⟨by simp only;omega,by simp only;omega,l6,hnext,l4,l5⟩,by simp only;omega,⟨rfl,rfl,rfl,rfl,rfl,trivial⟩,rfl⟩
  rw[bu,if_neg (gu 92 h1)]at l3;have hsl:aM Tryz.prog 9 (.str s) (some (.int .i64 (fr:Int))) (some (.int .i64 (i:Int))) none=some (.str ((s.drop fr).take (i - fr))):=by
   rw[ss9,en _ _ _ _ l2 (by omega)];rfl
  have ha:=rS s hs (show out.length≤1000001 by omega) z k l4 ((s.drop fr).take (i - fr));by_cases h2:x.toNat=m.toNat
  ·rw[if_pos (UInt8.toNat_inj.1 h2)]at l3
   repeat'(first|(simp(disch:=first|omega|(simp only[zL];omega))only[go_sem,seval,xi9 hx,hsl,hb1,ha,hde]))
   exact⟨(i+1,i+1,(if z then k+1 else k),true,out++[(s.drop fr).take (i - fr)]),⟨by simp only;omega,Nat.le_refl _,by simp only;omega,by simp only[Nat.sub_self,List.take_zero];rw[←l3];simp,(fun h=>by cases h),by simp only[List.length_append,List.length_cons,List.length_nil];omega⟩,by simp only;omega,⟨rfl,rfl,rfl,rfl,rfl,trivial⟩,rfl⟩
  ·rw[if_neg (fun e=>h2 (by rw[e]))]at l3
   repeat'(first|(simp(disch:=first|omega|(simp only[zL];omega))only[go_sem,seval,xi9 hx]))
   exact⟨(i+1,fr,k,z,out),⟨by simp only;omega,by simp only;omega,l6,by simp only;rw[hcur];exact l3,l4,l5⟩,by simp only;omega,⟨rfl,rfl,rfl,rfl,rfl,trivial⟩,rfl⟩
 ·have hd0:s.drop i=[]:=List.drop_of_length_le (by omega)
  rw[hd0,fU,List.take_of_length_le (by simp;omega)]at l3;have hsl:aM Tryz.prog 9 (.str s) (some (.int .i64 (fr:Int))) none none=some (.str (s.drop fr)):=by
   rw[ss9,bn _ _ (by omega)];simp only[Option.map_some,cL]
  have ha:=rS s hs (show out.length≤1000001 by omega) z k l4 (s.drop fr)
  repeat'(first|(simp(disch:=first|omega|(simp only[zL];omega))only[go_sem,seval,hsl,hb1,ha,hde]))
  have hat:=dR (B:=[]) (f:=AV.str) (k:=if z then k+1 else k) (j:=0) (L:=out++[s.drop fr]);have hfl:be AV.str (out++[s.drop fr])=(out++[s.drop fr]).map .str:=dE _;rw[hfl]at hat;rw[←l3];exact⟨_,rfl,.inr ⟨_,0,(out++[s.drop fr]).length,0,(out++[s.drop fr]).map .str,true,rfl,hat,az _,.inr ⟨rfl,rfl⟩⟩⟩
theorem H9(s:Bytes)(c:Bool)(hs:s.length≤1000000):ad Tryz.prog 119 [.str s,.bool c] (.ret (.vsl 0 false ((ei (mk c) s).map .str))):=
 (BQ s c hs).pure (kP (az _) (di _))
/-! ### Fold -/
def mK:Nat→Bytes→Bytes
 |_,[]=>[]
 |i,x::t=>(if 75≤i∧(i - 75)%74=0 then [13,10,32]else [])++x::mK (i+1) t
def lb:Nat→Bytes→Bytes
 |_,[]=>[]
 |0,x::t=>[13,10,32]++x::lb 73 t
 |m+1,x::t=>x::lb m t
def room(i:Nat):Nat:=if i<75 then 75 - i else(74 - (i - 75)%74)%74
theorem xz:∀(s:Bytes) (i:Nat),mK i s=lb (room i) s
 | [],i=>by cases h:room i<;>rfl
 | x::t,i=>by
  rw[mK,xz t (i+1)];by_cases h:75≤i∧(i - 75)%74=0
  ·have h0:room i=0:=by unfold room;rw[if_neg (by omega)];omega
   have h1:room (i+1)=73:=by unfold room;rw[if_neg (by omega)];omega
   rw[if_pos h,h0,h1];rfl
  ·have h1:room i=room (i+1)+1:=by
    unfold room;by_cases h2:i<75
    ·rw[if_pos h2]
     by_cases h3:i+1<75
     ·rw[if_pos h3];omega
     ·rw[if_neg h3];have:i=74:=by omega
      subst this;rfl
    ·rw[if_neg h2,if_neg (by omega)];omega
   rw[if_neg h,h1];rfl
theorem jZ:∀(m:Nat) (s:Bytes),lb m s=s.take m++lb 0 (s.drop m)
 |0,s=>by simp
 |m+1,[]=>by simp[lb]
 |m+1,x::t=>by simp only[lb,List.take_succ_cons,List.drop_succ_cons,List.cons_append];rw[jZ m t]
theorem xA:∀(k m:Nat) (s:Bytes),s.length≤k→1≤m→iP k m s=lb m s
 |0,m,s,h,_=>by
  have:s=[]:=List.length_eq_zero_iff.1 (by omega);subst this;cases m<;>rfl
 | k+1,m,s,h,hm=>by
  rw[iP];by_cases h1:m<s.length
  ·rw[if_pos h1,xA k 74 _ (by simp;omega) (by omega),jZ m s]
   congr 1;obtain⟨x,t,hx⟩:∃x t,s.drop m=x::t:=by
    cases hd:s.drop m with
    |nil=>have:=congrArg List.length hd;simp at this;omega
    |cons x t=>exact⟨x,t,rfl⟩
   rw[hx];rfl
  ·rw[if_neg h1,jZ,List.take_of_length_le (by omega),List.drop_of_length_le (by omega)]
   simp[lb]
theorem Ia(s:Bytes):fold s=mK 0 s:=by
 rw[xz];exact xA _ _ _ (Nat.le_refl _) (by omega)
set_option maxRecDepth 8000 in
theorem Kw(s:Bytes)(hs:s.length≤200000):ad Tryz.prog 115 [.str s] (.ret (.str (fold s))):=by
 rw[Ia];refine ad.of Tryz.func115 rfl (ab enters Tryz.func115 rfl) (by simp[Tryz.ntmps115]) ?_;show W Tryz.prog 29 0 none _ _ _;refine W.vc (by decide) ?_
 repeat'(first|(simp(disch:=first|omega|(simp only[zL];omega))only[go_sem,seval]))
 refine W.bc (X:=Nat×Nat×Bool×Bytes) (fun x=>[(4,.int .i64 (x.1:Int)),(3,byV x.2.1 x.2.2.1 x.2.2.2),(0,.str s)]) (fun x=>byM x.2.1 x.2.2.1 x.2.2.2)
  (fun x=>x.1≤s.length∧x.2.2.2++mK x.1 (s.drop x.1)=mK 0 s∧(x.2.2.1=false→x.2.2.2=[])∧x.2.2.2.length≤4*x.1) (fun x=>s.length - x.1) (0,0,false,[]) ⟨Nat.zero_le _,rfl,fun _=>rfl,Nat.le_refl _⟩ (by simp[aC,Av.get,byV,bp]) rfl ?_
 rintro⟨i,k,z,L⟩ ⟨l1,l2,l3,l4⟩;simp only at l1 l2 l3 l4 ⊢;refine .vc (by decide) ?_;have hde:deN (byV k z L)=byV k z L:=eC _ _ _ _ _ _ _;by_cases h:i<s.length
 ·obtain⟨x,hx,hdrop⟩:=drop_at h
  rw[hdrop,mK]at l2;have hbs:=EM x;by_cases h1:75≤i
  ·have hrem:∀t,aH Tryz.prog .rem t (.int .i64 ((i:Int) - 75)) (.int .i64 74)=some (.int .i64 (((i - 75)%74:Nat):Int)):=by
    intro t;have e:((i:Int) - 75)=((i - 75:Nat):Int):=by omega
    simp only[aH,e];simp[Int.tmod]
   by_cases h2:(i - 75)%74=0
   ·rw[if_pos ⟨h1,h2⟩]at l2
    obtain⟨k1,ha⟩:=EN k z L (by omega) l3;obtain⟨k2,hb⟩:=jr k1 true (L++[13,10,32]) x true (by simp;omega) (fun h=>by cases h);have hde1:deN (byV k1 true (L++[13,10,32]))=byV k1 true (L++[13,10,32]):=rfl
    repeat'(first|(simp(disch:=first|omega|(simp only[zL];omega))only[go_sem,seval,xi9 hx,hbs,hrem,hde,hde1,ha,hb]))
    refine⟨(i+1,k2,true,L++[13,10,32]++[x]),⟨by simp only;omega,?_,(fun h=>by cases h),?_⟩,by simp only;omega,⟨rfl,rfl,rfl,trivial⟩,rfl⟩
    ·rw[←l2];simp
    ·simp;omega
   ·rw[if_neg (by simp[h2])]at l2
    obtain⟨k2,hb⟩:=jr k z L x true (by omega) l3
    repeat'(first|(simp(disch:=first|omega|(simp only[zL];omega))only[go_sem,seval,xi9 hx,hbs,hrem,hde,hb]))
    refine⟨(i+1,k2,true,L++[x]),⟨by simp only;omega,?_,(fun h=>by cases h),?_⟩,by simp only;omega,⟨rfl,rfl,rfl,trivial⟩,rfl⟩
    ·rw[←l2];simp
    ·simp;omega
  ·rw[if_neg (by omega)]at l2
   obtain⟨k2,hb⟩:=jr k z L x true (by omega) l3
   repeat'(first|(simp(disch:=first|omega|(simp only[zL];omega))only[go_sem,seval,xi9 hx,hbs,hde,hb]))
   refine⟨(i+1,k2,true,L++[x]),⟨by simp only;omega,?_,(fun h=>by cases h),?_⟩,by simp only;omega,⟨rfl,rfl,rfl,trivial⟩,rfl⟩
   ·rw[←l2];simp
   ·simp;omega
 ·have e:i=s.length:=by omega
  subst e;rw[List.drop_length,mK,List.append_nil]at l2;have hcv:=vJ k z L l3
  repeat'(first|(simp(disch:=first|omega|(simp only[zL];omega))only[go_sem,seval,hcv]))
  rw[←l2];exact⟨_,rfl,_,rfl,.refl _⟩
/-! ### told, Text -/
theorem rV{v:Bytes}{i:Nat}{x:UInt8}(h:v[i]? =some x):dx (v.take (i+1))=(dx (v.take i)||(x==58||x==59||x==44)):=by
 unfold dx;rw[List.take_add_one,h,List.any_append];simp
set_option maxRecDepth 8000 in
theorem Kx(l:Ln)(hp:(told l).length≤200000):ad Tryz.prog 116 [aw l] (.ret (.str (told l))):=by
 obtain⟨g,n,x,ps,v⟩:=l;simp only[told,List.length_append,List.length_cons,List.length_nil]at hp;have hgl:g.length+n.length≤200000:=by
  have:(fR ⟨g,n,x,ps,v⟩).length≥g.length+n.length:=by unfold fR;simp only;split<;>simp_all[ch]
  omega
 have hps:ps.length≤200000:=by
  have:∀ps:List (Bytes×Bytes),ps.length≤(dM ps).length:=by
   intro ps;induction ps with
   |nil=>simp
   |cons a ps ih=>simp only[dM,List.map_cons,List.flatten_cons,List.length_append,List.length_cons,ou,List.length_nil]at ih ⊢;omega
  have:=this ps;omega
 refine ad.of Tryz.func116 rfl (ab enters Tryz.func116 rfl) (by simp[Tryz.ntmps116]) ?_;show W Tryz.prog 77 0 none _ _ _;simp only[aw];have hg:=vI g (by omega);have hn:=vI n (by omega);have:=ch g;have:=ch n;refine .seq (.vc (by decide) ?_)
 repeat'(first|(simp(disch:=first|omega|(simp only[zL];omega))only[go_sem,seval]))
 refine .seq (.vc (by decide) ?_)
 repeat'(first|(simp(disch:=first|omega|(simp only[zL];omega))only[go_sem,seval]))
 refine W.gX [(1,.ptr 0 0),(3,.str (if g=[]then []else ef g++[46]))] [.cells [.str g,.str n,.vsl 3 x (ps.map aD),.str v] false] (.vc (by decide) ?_) ?_
 ·by_cases h0:g=[]
  ·have e0:(g==[])=true:=by simp[h0]
   repeat'(first|(simp(disch:=first|omega|(simp only[zL];omega))only[go_sem,seval,e0]))
   exact⟨rfl,by simp[Av.get,h0],trivial⟩
  ·have e0:(g==[])=false:=by simp[h0]
   repeat'(first|(simp(disch:=first|omega|(simp only[zL];omega))only[go_sem,seval,e0])|((with_reducible first|apply aj.pure|apply ar.pure);(with_reducible exact hg);(first|rfl|simp only[go_sem])))
   exact⟨rfl,by simp[Av.get,h0],trivial⟩
 have hhd:(if g=[]then []else ef g++[46])++ef n=fR ⟨g,n,x,ps,v⟩:=by unfold fR;simp only;split<;>simp
 have hhl:(if g=[]then []else ef g++[46]).length≤200001:=by split<;>simp[ch];omega
 obtain⟨hd0,hhd0⟩:∃hd0,hd0=(if g=[]then []else ef g++[46]):=⟨_,rfl⟩
 rw[←hhd0]at hhd hhl ⊢;refine .vc (by decide) ?_
 repeat'(first|(simp(disch:=first|omega|(simp only[zL];omega))only[go_sem,seval])|((with_reducible first|apply aj.pure|apply ar.pure);(with_reducible exact hn);(first|rfl|simp only[go_sem])))
 refine W.bc (X:=Nat) (fun i=>[(4,.int .i64 (i:Int)),(3,.str (fR ⟨g,n,x,ps,v⟩++dM (ps.take i))),(1,.ptr 0 0)]) (fun _=>[.cells [.str g,.str n,.vsl 3 x (ps.map aD),.str v] false]) (fun i=>i≤ps.length) (fun i=>ps.length - i) 0 (Nat.zero_le _) ⟨rfl,by simp[Av.get,dM,hhd],rfl,trivial⟩ rfl ?_;intro i hi;refine .vc (by decide) ?_;by_cases h:i<ps.length
 ·obtain⟨u,hu,hdrop⟩:=drop_at h
  have hia:∀H,ak Tryz.prog 44 (.vsl 3 x (ps.map aD)) (.int .i64 (i:Int)) H=some (.vptr [.str u.1,.str u.2]):=fun H=>Ho (v:=aD u) (by simp[hu]) rfl H;have hle:=oz ps (i+1);rw[fS hu]at hle;simp only[List.length_append,ou,List.length_cons,List.length_nil,ch]at hle;have hql:=Bv u.2;have hgu:=vI u.1 (by omega);have hgl:=ch u.1
  repeat'(first|(simp(disch:=first|omega|(simp only[zL];omega))only[go_sem,seval,hia]))
  refine W.bc (X:=Nat) (fun j=>[(7,.int .i64 (j:Int)),(6,.str (if dx (u.2.take j)then [34]else [])),(5,.str u.2),(4,.int .i64 (i:Int)),(3,.str (fR ⟨g,n,x,ps,v⟩++dM (ps.take i))),(1,.ptr 0 0)]) (fun _=>[.cells [.str g,.str n,.vsl 3 x (ps.map aD),.str v] false]) (fun j=>j≤u.2.length) (fun j=>u.2.length - j) 0 (Nat.zero_le _) ⟨rfl,rfl,rfl,rfl,rfl,rfl,trivial⟩ rfl ?_;intro j hj;refine .vc (by decide) ?_;by_cases hjl:j<u.2.length
  ·obtain⟨y,hy,_⟩:=drop_at hjl
   have hqt:=rV hy;by_cases hq:y=58∨y=59∨y=44
   ·have hb:(y==58||y==59||y==44)=true:=by rcases hq with h|h|h<;>simp[h]
    rw[hb,Bool.or_true]at hqt;have hn:y.toNat=58∨y.toNat=59∨y.toNat=44:=by rcases hq with h|h|h<;>simp[h]
    rcases hn with hn|hn|hn
    all_goals
     repeat'(first|(simp(disch:=first|omega|(simp only[zL];omega))only[go_sem,seval,xi9 hy]))
     exact⟨j+1,by omega,by omega,⟨rfl,by rw[hqt];rfl,rfl,rfl,rfl,rfl,trivial⟩⟩
   ·have hne:y.toNat≠58∧y.toNat≠59∧y.toNat≠44:=by
     refine⟨fun h=>hq ?_,fun h=>hq ?_,fun h=>hq ?_⟩
     ·exact .inl (UInt8.toNat_inj.1 h)
     ·exact .inr (.inl (UInt8.toNat_inj.1 h))
     ·exact .inr (.inr (UInt8.toNat_inj.1 h))
    obtain⟨n1,n2,n3⟩:=hne;have hb:(y==58||y==59||y==44)=false:=by
     have:y≠58∧y≠59∧y≠44:=⟨fun h=>hq (.inl h),fun h=>hq (.inr (.inl h)),fun h=>hq (.inr (.inr h))⟩
     simp[this]
    rw[hb,Bool.or_false]at hqt
    repeat'(first|(simp(disch:=first|omega|(simp only[zL];omega))only[go_sem,seval,xi9 hy]))
    exact⟨j+1,by omega,by omega,⟨rfl,by rw[hqt];rfl,rfl,rfl,rfl,rfl,trivial⟩⟩
  ·have e:j=u.2.length:=by omega
   subst e;rw[List.take_length];have hqv:(if dx u.2 then [34]else [])++u.2++(if dx u.2 then [34]else [])=qv u.2:=by unfold qv;split<;>simp
   have hq2:(if dx u.2 then [34]else([]:Bytes)).length≤1:=by split<;>simp
   obtain⟨qq,hqq⟩:∃qq:Bytes,qq=(if dx u.2 then [34]else []):=⟨_,rfl⟩
   rw[←hqq]at hqv hq2 ⊢
   repeat'(first|(simp(disch:=first|omega|(simp only[zL];omega))only[go_sem,seval,hia])|((with_reducible first|apply aj.pure|apply ar.pure);(with_reducible exact hgu);(first|rfl|simp only[go_sem])))
   refine⟨i+1,by omega,by omega,⟨rfl,?_,rfl,trivial⟩⟩;simp only[Av.get,Nat.reduceEqDiff,↓reduceIte];rw[fS hu,ou,←hqv];simp
 ·have e:i=ps.length:=by omega
  subst e;rw[List.take_length]
  repeat'(first|(simp(disch:=first|omega|(simp only[zL];omega))only[go_sem,seval]))
  refine⟨_,rfl,_,rfl,rq ?_⟩;simp[told]
def oJ(ls:List Ln):Bytes:=(ls.map fun l=>fold (told l)++[13,10]).flatten
theorem Ib(c:Cd):laid c=gx++[13,10]++(dp++c.ver++[13,10])++oJ c.ls++(yH++[13,10]):=by
 simp[laid,cN,fk,oJ,Function.comp_def]
theorem qs{ls:List Ln}{i:Nat}{l:Ln}(h:ls[i]? =some l):oJ (ls.take (i+1))=oJ (ls.take i)++(fold (told l)++[13,10]):=by
 unfold oJ;rw[List.take_add_one,h];simp
theorem rX:∀(ls:List Ln) (i:Nat),(oJ (ls.take i)).length≤(oJ ls).length
 | [],i=>by simp
 |x::l,0=>by simp[oJ]
 |x::l,i+1=>by
  have:=rX l i;simp only[oJ,List.take_succ_cons,List.map_cons,List.flatten_cons,List.length_append]at this ⊢;omega
set_option maxRecDepth 8000 in
theorem Ky(c:Cd)(hp:∀l∈c.ls,(told l).length≤200000)(hb:(laid c).length≤50000000)(hn:c.ls.length≤1000000):ad Tryz.prog 65 [bV c] (.ret (.str (laid c))):=by
 rw[Ib]at hb ⊢;obtain⟨ver,x,ls⟩:=c;simp only at hp hb hn ⊢;simp only[List.length_append,List.length_cons,List.length_nil]at hb;refine ad.of Tryz.func65 rfl (ab enters Tryz.func65 rfl) (by simp[Tryz.ntmps65]) ?_;show W Tryz.prog 28 0 none _ _ _;refine W.vc (by decide) ?_;simp only[bV]
 repeat'(first|(simp(disch:=first|omega|(simp only[zL];omega))only[go_sem,seval]))
 have e0:gx++[13,10]++(dp++ver++[13,10])=66::69::71::73::78::58::86::67::65::82::68::13::10::86::69::82::83::73::79::78::58::(ver++[13,10]):=by simp[gx,dp]
 rw[←e0];obtain⟨hd,hhd⟩:∃hd,hd=gx++[13,10]++(dp++ver++[13,10]):=⟨_,rfl⟩
 have hhl:hd.length≤50000000:=by rw[hhd];simp only[List.length_append,List.length_cons,List.length_nil];omega
 rw[←hhd];refine W.bc (X:=Nat) (fun i=>[(4,.int .i64 (i:Int)),(3,.str (hd++oJ (ls.take i))),(1,.ptr 0 0)]) (fun _=>[.cells [.str ver,.vsl 5 x (ls.map aw)] false]) (fun i=>i≤ls.length) (fun i=>ls.length - i) 0 (Nat.zero_le _) ⟨rfl,by simp[Av.get,oJ],rfl,trivial⟩ rfl ?_;intro i hi;refine .vc (by decide) ?_;have htl:=rX ls i;by_cases h:i<ls.length
 ·obtain⟨u,hu,hdrop⟩:=drop_at h
  have hia:∀H,ak Tryz.prog 22 (.vsl 5 x (ls.map aw)) (.int .i64 (i:Int)) H=some (.vptr [.str u.g,.str u.n,.vsl 3 u.x (u.ps.map aD),.str u.v]):=fun H=>rA (v:=aw u) (by simp[hu]) rfl H;have hmu:u∈ls:=List.mem_of_getElem? hu;have ht:=Kx u (hp u hmu);simp only[aw]at ht;have hf:=Kw (told u) (hp u hmu);have hle:=rX ls (i+1);rw[qs hu]at hle;simp only[List.length_append,List.length_cons,List.length_nil]at hle
  repeat'(first|(simp(disch:=first|omega|(simp only[zL];omega))only[go_sem,seval,hia])|((with_reducible first|apply aj.pure|apply ar.pure);(with_reducible assumption);(first|rfl|simp only[go_sem,aB])))
  refine⟨i+1,by omega,by omega,⟨rfl,?_,rfl,trivial⟩⟩;simp only[Av.get,Nat.reduceEqDiff,↓reduceIte];rw[qs hu];simp
 ·have e:i=ls.length:=by omega
  subst e;rw[List.take_length];have hend:yH++[13,10]=[69,78,68,58,86,67,65,82,68,13,10]:=rfl;rw[hend]
  repeat'(first|(simp(disch:=first|omega|(simp only[zL];omega))only[go_sem,seval]))
  exact⟨_,rfl,_,rfl,.refl _⟩
def py(s:Bytes):Nat→List Bytes→Int
 |_,[]=>-1
 |i,o::l=>if s==o then(i:Int)else py s (i+1) l
theorem xB (s :Bytes): ∀(l:List Bytes) (i:Nat),decide (py s i l≥0)=decide (s∈l)
  | [],i=>by simp[py]
  | o :: l, i =>by
    rw[py];cases h:(s==o)with
    | true => have:s=o:=by simpa using h
              subst this;simp
    | false => have: ¬s=o:=by simpa using h
               simp only[Bool.false_eq_true,if_false];rw[xB s l (i+1)];simp[this]
set_option maxRecDepth 8000 in
theorem Ic(x:Bool)(l:List Bytes)(s:Bytes):ad Tryz.prog 141 [.vsl 0 x (l.map .str),.str s] (.ret (.int .i64 (py s 0 l))):=by
 refine EO fun hb=>?_;refine ad.of Tryz.func141 rfl (ab enters Tryz.func141 rfl) (by simp[Tryz.ntmps141]) ?_;show W Tryz.prog 19 0 none _ _ _;refine W.vc (by decide) ?_
 repeat'(first|(simp(disch:=first|omega|(simp only[zL];omega))only[go_sem,seval]))
 refine W.bc (X:=Nat) (fun i=>[(8,.int .i64 (i:Int)),(7,.int .i64 l.length),(0,.vsl 0 x (l.map .str)),(1,.str s)]) (fun _=>[]) (fun i=>i≤l.length∧py s i (l.drop i)=py s 0 l) (fun i=>l.length - i) 0 ⟨Nat.zero_le _,rfl⟩ ⟨rfl,rfl,rfl,rfl,trivial⟩ rfl ?_;rintro i ⟨hi,ht⟩;refine .vc (by decide) ?_;by_cases h:i<l.length
 ·obtain⟨u,hu,hd⟩:=drop_at h
  have h1:∀H,ak Tryz.prog 25 (.vsl 0 x (l.map .str)) (.int .i64 (i:Int)) H=some (.vptr [.str u]):=fun H=>eJ (v:=.str u) (by simp[hu]) rfl H;rw[hd,py]at ht;cases hc:(s==u)with
  |true=>
   rw[hc,if_pos rfl]at ht
   repeat'(first|(simp(disch:=first|omega|(simp only[zL];omega))only[go_sem,seval,h1,hc]))
   rw[←ht];exact⟨_,rfl,_,rfl,.refl _⟩
  |false=>
   rw[hc,if_neg (by simp)]at ht
   repeat'(first|(simp(disch:=first|omega|(simp only[zL];omega))only[go_sem,seval,h1,hc]))
   exact⟨i+1,⟨by omega,ht⟩,by omega,rfl,rfl,rfl,rfl,trivial⟩
 ·have e:i=l.length:=by omega
  subst e;rw[List.drop_length,py]at ht
  repeat'(first|(simp(disch:=first|omega|(simp only[zL];omega))only[go_sem,seval]))
  rw[←ht];exact⟨_,rfl,_,rfl,.refl _⟩
theorem qt(x:Bool)(l:List Bytes)(s:Bytes):ad Tryz.prog 101 [.vsl 0 x (l.map .str),.str s] (.ret (.bool (decide (s∈l)))):=by
 have h:=Ic x l s;have hg:=xB s l 0;generalize py s 0 l=p at*;rw[←hg];by_cases q:p≥0
 case pos=>
  rw[decide_eq_true q];refine ad.of Tryz.func101 rfl (ab enters Tryz.func101 rfl) (by simp[Tryz.ntmps101]) ?_;show W Tryz.prog 9 0 none _ _ _;refine W.vc (by decide) ?_
  repeat'(first|(simp(disch:=first|omega|(simp only[zL];omega))only[go_sem,seval])|((with_reducible first|apply aj.pure|apply ar.pure);(with_reducible exact h);(first|rfl|simp only[go_sem,az])))
  exact⟨_,rfl,_,rfl,.refl _⟩
 case neg=>
  rw[decide_eq_false q];refine ad.of Tryz.func101 rfl (ab enters Tryz.func101 rfl) (by simp[Tryz.ntmps101]) ?_;show W Tryz.prog 9 0 none _ _ _;refine W.vc (by decide) ?_
  repeat'(first|(simp(disch:=first|omega|(simp only[zL];omega))only[go_sem,seval])|((with_reducible first|apply aj.pure|apply ar.pure);(with_reducible exact h);(first|rfl|simp only[go_sem,az])))
  exact⟨_,rfl,_,rfl,.refl _⟩
/-! ### Wanted -/
def hdB(l:List Bytes):Bytes:=l.headD []
theorem Ie(x:Bool)(l:List Bytes):ad Tryz.prog 103 [.vsl 0 x (l.map .str)] (.ret (.str (hdB l))):=by
 refine EO fun hb=>?_;cases l with
 |nil=>
  refine ad.of Tryz.func103 rfl (ab enters Tryz.func103 rfl) (by simp[Tryz.ntmps103]) ?_;show W Tryz.prog 9 0 none _ _ _;refine W.vc (by decide) ?_
  repeat'(first|(simp(disch:=first|omega|(simp only[zL];omega))only[go_sem,seval]))
  exact⟨_,rfl,_,rfl,.refl _⟩
 |cons u l=>
  have h1:∀H,ak Tryz.prog 25 (.vsl 0 x ((u::l).map .str)) (.int .i64 0) H=some (.vptr [.str u]):=fun H=>eJ (n:=0) (v:=.str u) rfl rfl H;have hln:∀H,aI Tryz.prog 25 (.vsl 0 x ((u::l).map .str)) H=some (.int .i64 ((l.length+1:Nat):Int)):=by intro H;simp[aI,Tryz.underlying25]
  obtain⟨V,hV⟩:∃V,V=AV.vsl 0 x ((u::l).map .str):=⟨_,rfl⟩
  have hde:deN V=V:=by rw[hV];rfl
  rw[←hV]at h1 hln ⊢;refine ad.of Tryz.func103 rfl (ab enters Tryz.func103 rfl) (by simp[Tryz.ntmps103]) ?_;show W Tryz.prog 9 0 none _ _ _;refine W.vc (by decide) ?_
  repeat'(first|(simp(disch:=first|omega|(simp only[zL];omega))only[go_sem,seval,h1,hln,hde]))
  exact⟨_,rfl,_,rfl,.refl _⟩
/-! ### What a line says -/
theorem ij(l:Ln)(n:Bytes)(hl:l.n.length≤1000000):ad Tryz.prog 35 [aw l,.str n] (.ret (.bool (small l.n==n))):=by
 have hs:=oe l.n;obtain⟨g,m,x,ps,v⟩:=l;simp only[aw]at*;refine ad.of Tryz.func35 rfl (ab enters Tryz.func35 rfl) (by simp[Tryz.ntmps35]) ?_;show W Tryz.prog 10 0 none _ _ _;refine W.vc (by decide) ?_
 repeat'(first|(simp(disch:=first|omega|(simp only[zL];omega))only[go_sem,seval])|((with_reducible first|apply aj.pure|apply ar.pure);(with_reducible exact hs);(first|rfl|simp only[go_sem])))
 exact⟨_,rfl,_,rfl,.refl _⟩
theorem BR(v:Bytes)(n:Nat)(hv:v.length≤1000000):ad Tryz.prog 76 [.str v,.int .i64 (n:Int)] (.ret (.str (iS v n))):=by
 have hp:=H7 v false hv;have hpl:(ei (mk false) v).length≤1000001:=by have:=eQ (mk false) false [] v;unfold ei;omega
 have e:mk false=59:=rfl;rw[e]at hp hpl;unfold iS;have hle:∀s∈ei 59 v,s.length≤1000000:=fun s hs=>by have:=gQ 59 v false [] s hs;simp at this;omega
 generalize ei 59 v=P at*;by_cases h:n<P.length
 case pos=>
  obtain⟨u,hu,_⟩:=drop_at h;have h1:∀H,ak Tryz.prog 25 (.vsl 0 false (P.map .str)) (.int .i64 (n:Int)) H=some (.vptr [.str u]):=fun H=>eJ (v:=.str u) (by simp[hu]) rfl H;have hun:=mb u (hle u (List.mem_of_getElem? hu));have e:atC P n=cH u:=by unfold atC;rw[hu]
  rw[e];refine ad.of Tryz.func76 rfl (ab enters Tryz.func76 rfl) (by simp[Tryz.ntmps76]) ?_;show W Tryz.prog 17 0 none _ _ _;refine W.vc (by decide) ?_
  repeat'(first|(simp(disch:=first|omega|(simp only[zL];omega))only[go_sem,seval,h1])|((with_reducible first|apply aj.pure|apply ar.pure);(with_reducible assumption);(first|rfl|simp only[go_sem])))
  exact⟨_,rfl,_,rfl,.refl _⟩
 case neg=>
  have e:atC P n=[]:=by unfold atC;rw[List.getElem?_eq_none (by omega)]
  rw[e];refine ad.of Tryz.func76 rfl (ab enters Tryz.func76 rfl) (by simp[Tryz.ntmps76]) ?_;show W Tryz.prog 17 0 none _ _ _;refine W.vc (by decide) ?_
  repeat'(first|(simp(disch:=first|omega|(simp only[zL];omega))only[go_sem,seval])|((with_reducible first|apply aj.pure|apply ar.pure);(with_reducible exact hp);(first|rfl|simp only[go_sem])))
  exact⟨_,rfl,_,rfl,.refl _⟩
def bJ(m v:Bytes)(f:Nat):Bytes:=bI ⟨[],m,false,[],v⟩ f
theorem BS(l:Ln)(f:Nat):bI l f=bJ l.n l.v f:=rfl
set_option maxRecDepth 8000 in
theorem Ig(g m:Bytes)(x:Bool)(ps:List (Bytes×Bytes))(v:Bytes)(hm:m.length≤1000000)(hv:v.length≤1000000):ad Tryz.prog 36 [.agg [.str g,.str m,.vsl 3 x (ps.map aD),.str v],.int .i64 0] (.ret (.str (bJ m v 0))):=by
 have hn:ad Tryz.prog 35 [.agg [.str g,.str m,.vsl 3 x (ps.map aD),.str v],.str nFN] (.ret (.bool (small m==nFN))):=ij ⟨g,m,x,ps,v⟩ nFN hm;have hu:=mb v hv;by_cases h:small m=nFN
 case pos=>
  rw[h,beq_self_eq_true]at hn;simp only[nFN]at hn h;have e:bJ m v 0=cH v:=by simp[bJ,bI,h,nFN,nN,dU,bA,cu,bB,dV]
  rw[e];refine ad.of Tryz.func36 rfl (ab enters Tryz.func36 rfl) (by simp[Tryz.ntmps36]) ?_;show W Tryz.prog 65 0 none _ _ _;refine W.vc (by decide) ?_
  repeat'(first|(simp(disch:=first|omega|(simp only[zL];omega))only[go_sem,seval])|((with_reducible first|apply aj.pure|apply ar.pure);(with_reducible assumption);(first|rfl|simp only[go_sem,aB])))
  exact⟨_,rfl,_,rfl,.refl _⟩
 case neg=>
  rw[beq_eq_false_iff_ne.2 h]at hn;simp only[nFN]at hn h;have e:bJ m v 0=[]:=by simp[bJ,bI,h,nFN,nN,dU,bA,cu,bB,dV]
  rw[e];refine ad.of Tryz.func36 rfl (ab enters Tryz.func36 rfl) (by simp[Tryz.ntmps36]) ?_;show W Tryz.prog 65 0 none _ _ _;refine W.vc (by decide) ?_
  repeat'(first|(simp(disch:=first|omega|(simp only[zL];omega))only[go_sem,seval])|((with_reducible first|apply aj.pure|apply ar.pure);(with_reducible assumption);(first|rfl|simp only[go_sem,aB])))
  exact⟨_,rfl,_,rfl,.refl _⟩
set_option maxRecDepth 8000 in
theorem Ih(g m:Bytes)(x:Bool)(ps:List (Bytes×Bytes))(v:Bytes)(hm:m.length≤1000000)(hv:v.length≤1000000):ad Tryz.prog 36 [.agg [.str g,.str m,.vsl 3 x (ps.map aD),.str v],.int .i64 1] (.ret (.str (bJ m v 1))):=by
 have hn:ad Tryz.prog 35 [.agg [.str g,.str m,.vsl 3 x (ps.map aD),.str v],.str nN] (.ret (.bool (small m==nN))):=ij ⟨g,m,x,ps,v⟩ nN hm;have hu:ad Tryz.prog 76 [.str v,.int .i64 1] (.ret (.str (iS v 1))):=BR v 1 hv;by_cases h:small m=nN
 case pos=>
  rw[h,beq_self_eq_true]at hn;simp only[nN]at hn h;have e:bJ m v 1=iS v 1:=by simp[bJ,bI,h,nFN,nN,dU,bA,cu,bB,dV]
  rw[e];refine ad.of Tryz.func36 rfl (ab enters Tryz.func36 rfl) (by simp[Tryz.ntmps36]) ?_;show W Tryz.prog 65 0 none _ _ _;refine W.vc (by decide) ?_
  repeat'(first|(simp(disch:=first|omega|(simp only[zL];omega))only[go_sem,seval])|((with_reducible first|apply aj.pure|apply ar.pure);(with_reducible assumption);(first|rfl|simp only[go_sem,aB])))
  exact⟨_,rfl,_,rfl,.refl _⟩
 case neg=>
  rw[beq_eq_false_iff_ne.2 h]at hn;simp only[nN]at hn h;have e:bJ m v 1=[]:=by simp[bJ,bI,h,nFN,nN,dU,bA,cu,bB,dV]
  rw[e];refine ad.of Tryz.func36 rfl (ab enters Tryz.func36 rfl) (by simp[Tryz.ntmps36]) ?_;show W Tryz.prog 65 0 none _ _ _;refine W.vc (by decide) ?_
  repeat'(first|(simp(disch:=first|omega|(simp only[zL];omega))only[go_sem,seval])|((with_reducible first|apply aj.pure|apply ar.pure);(with_reducible assumption);(first|rfl|simp only[go_sem,aB])))
  exact⟨_,rfl,_,rfl,.refl _⟩
set_option maxRecDepth 8000 in
theorem Ii(g m:Bytes)(x:Bool)(ps:List (Bytes×Bytes))(v:Bytes)(hm:m.length≤1000000)(hv:v.length≤1000000):ad Tryz.prog 36 [.agg [.str g,.str m,.vsl 3 x (ps.map aD),.str v],.int .i64 2] (.ret (.str (bJ m v 2))):=by
 have hn:ad Tryz.prog 35 [.agg [.str g,.str m,.vsl 3 x (ps.map aD),.str v],.str nN] (.ret (.bool (small m==nN))):=ij ⟨g,m,x,ps,v⟩ nN hm;have hu:ad Tryz.prog 76 [.str v,.int .i64 0] (.ret (.str (iS v 0))):=BR v 0 hv;by_cases h:small m=nN
 case pos=>
  rw[h,beq_self_eq_true]at hn;simp only[nN]at hn h;have e:bJ m v 2=iS v 0:=by simp[bJ,bI,h,nFN,nN,dU,bA,cu,bB,dV]
  rw[e];refine ad.of Tryz.func36 rfl (ab enters Tryz.func36 rfl) (by simp[Tryz.ntmps36]) ?_;show W Tryz.prog 65 0 none _ _ _;refine W.vc (by decide) ?_
  repeat'(first|(simp(disch:=first|omega|(simp only[zL];omega))only[go_sem,seval])|((with_reducible first|apply aj.pure|apply ar.pure);(with_reducible assumption);(first|rfl|simp only[go_sem,aB])))
  exact⟨_,rfl,_,rfl,.refl _⟩
 case neg=>
  rw[beq_eq_false_iff_ne.2 h]at hn;simp only[nN]at hn h;have e:bJ m v 2=[]:=by simp[bJ,bI,h,nFN,nN,dU,bA,cu,bB,dV]
  rw[e];refine ad.of Tryz.func36 rfl (ab enters Tryz.func36 rfl) (by simp[Tryz.ntmps36]) ?_;show W Tryz.prog 65 0 none _ _ _;refine W.vc (by decide) ?_
  repeat'(first|(simp(disch:=first|omega|(simp only[zL];omega))only[go_sem,seval])|((with_reducible first|apply aj.pure|apply ar.pure);(with_reducible assumption);(first|rfl|simp only[go_sem,aB])))
  exact⟨_,rfl,_,rfl,.refl _⟩
set_option maxRecDepth 8000 in
theorem Ij(g m:Bytes)(x:Bool)(ps:List (Bytes×Bytes))(v:Bytes)(hm:m.length≤1000000)(hv:v.length≤1000000):ad Tryz.prog 36 [.agg [.str g,.str m,.vsl 3 x (ps.map aD),.str v],.int .i64 3] (.ret (.str (bJ m v 3))):=by
 have hn:ad Tryz.prog 35 [.agg [.str g,.str m,.vsl 3 x (ps.map aD),.str v],.str dU] (.ret (.bool (small m==dU))):=ij ⟨g,m,x,ps,v⟩ dU hm;have hu:ad Tryz.prog 76 [.str v,.int .i64 0] (.ret (.str (iS v 0))):=BR v 0 hv;by_cases h:small m=dU
 case pos=>
  rw[h,beq_self_eq_true]at hn;simp only[dU]at hn h;have e:bJ m v 3=iS v 0:=by simp[bJ,bI,h,nFN,nN,dU,bA,cu,bB,dV]
  rw[e];refine ad.of Tryz.func36 rfl (ab enters Tryz.func36 rfl) (by simp[Tryz.ntmps36]) ?_;show W Tryz.prog 65 0 none _ _ _;refine W.vc (by decide) ?_
  repeat'(first|(simp(disch:=first|omega|(simp only[zL];omega))only[go_sem,seval])|((with_reducible first|apply aj.pure|apply ar.pure);(with_reducible assumption);(first|rfl|simp only[go_sem,aB])))
  exact⟨_,rfl,_,rfl,.refl _⟩
 case neg=>
  rw[beq_eq_false_iff_ne.2 h]at hn;simp only[dU]at hn h;have e:bJ m v 3=[]:=by simp[bJ,bI,h,nFN,nN,dU,bA,cu,bB,dV]
  rw[e];refine ad.of Tryz.func36 rfl (ab enters Tryz.func36 rfl) (by simp[Tryz.ntmps36]) ?_;show W Tryz.prog 65 0 none _ _ _;refine W.vc (by decide) ?_
  repeat'(first|(simp(disch:=first|omega|(simp only[zL];omega))only[go_sem,seval])|((with_reducible first|apply aj.pure|apply ar.pure);(with_reducible assumption);(first|rfl|simp only[go_sem,aB])))
  exact⟨_,rfl,_,rfl,.refl _⟩
set_option maxRecDepth 8000 in
theorem Ik(g m:Bytes)(x:Bool)(ps:List (Bytes×Bytes))(v:Bytes)(hm:m.length≤1000000)(hv:v.length≤1000000):ad Tryz.prog 36 [.agg [.str g,.str m,.vsl 3 x (ps.map aD),.str v],.int .i64 4] (.ret (.str (bJ m v 4))):=by
 have hn:ad Tryz.prog 35 [.agg [.str g,.str m,.vsl 3 x (ps.map aD),.str v],.str bA] (.ret (.bool (small m==bA))):=ij ⟨g,m,x,ps,v⟩ bA hm;have hu:=mb v hv;by_cases h:small m=bA
 case pos=>
  rw[h,beq_self_eq_true]at hn;simp only[bA]at hn h;have e:bJ m v 4=cH v:=by simp[bJ,bI,h,nFN,nN,dU,bA,cu,bB,dV]
  rw[e];refine ad.of Tryz.func36 rfl (ab enters Tryz.func36 rfl) (by simp[Tryz.ntmps36]) ?_;show W Tryz.prog 65 0 none _ _ _;refine W.vc (by decide) ?_
  repeat'(first|(simp(disch:=first|omega|(simp only[zL];omega))only[go_sem,seval])|((with_reducible first|apply aj.pure|apply ar.pure);(with_reducible assumption);(first|rfl|simp only[go_sem,aB])))
  exact⟨_,rfl,_,rfl,.refl _⟩
 case neg=>
  rw[beq_eq_false_iff_ne.2 h]at hn;simp only[bA]at hn h;have e:bJ m v 4=[]:=by simp[bJ,bI,h,nFN,nN,dU,bA,cu,bB,dV]
  rw[e];refine ad.of Tryz.func36 rfl (ab enters Tryz.func36 rfl) (by simp[Tryz.ntmps36]) ?_;show W Tryz.prog 65 0 none _ _ _;refine W.vc (by decide) ?_
  repeat'(first|(simp(disch:=first|omega|(simp only[zL];omega))only[go_sem,seval])|((with_reducible first|apply aj.pure|apply ar.pure);(with_reducible assumption);(first|rfl|simp only[go_sem,aB])))
  exact⟨_,rfl,_,rfl,.refl _⟩
set_option maxRecDepth 8000 in
theorem Il(g m:Bytes)(x:Bool)(ps:List (Bytes×Bytes))(v:Bytes)(hm:m.length≤1000000)(hv:v.length≤1000000):ad Tryz.prog 36 [.agg [.str g,.str m,.vsl 3 x (ps.map aD),.str v],.int .i64 5] (.ret (.str (bJ m v 5))):=by
 have hn:ad Tryz.prog 35 [.agg [.str g,.str m,.vsl 3 x (ps.map aD),.str v],.str cu] (.ret (.bool (small m==cu))):=ij ⟨g,m,x,ps,v⟩ cu hm;have hu:=mb v hv;by_cases h:small m=cu
 case pos=>
  rw[h,beq_self_eq_true]at hn;simp only[cu]at hn h;have e:bJ m v 5=cH v:=by simp[bJ,bI,h,nFN,nN,dU,bA,cu,bB,dV]
  rw[e];refine ad.of Tryz.func36 rfl (ab enters Tryz.func36 rfl) (by simp[Tryz.ntmps36]) ?_;show W Tryz.prog 65 0 none _ _ _;refine W.vc (by decide) ?_
  repeat'(first|(simp(disch:=first|omega|(simp only[zL];omega))only[go_sem,seval])|((with_reducible first|apply aj.pure|apply ar.pure);(with_reducible assumption);(first|rfl|simp only[go_sem,aB])))
  exact⟨_,rfl,_,rfl,.refl _⟩
 case neg=>
  rw[beq_eq_false_iff_ne.2 h]at hn;simp only[cu]at hn h;have e:bJ m v 5=[]:=by simp[bJ,bI,h,nFN,nN,dU,bA,cu,bB,dV]
  rw[e];refine ad.of Tryz.func36 rfl (ab enters Tryz.func36 rfl) (by simp[Tryz.ntmps36]) ?_;show W Tryz.prog 65 0 none _ _ _;refine W.vc (by decide) ?_
  repeat'(first|(simp(disch:=first|omega|(simp only[zL];omega))only[go_sem,seval])|((with_reducible first|apply aj.pure|apply ar.pure);(with_reducible assumption);(first|rfl|simp only[go_sem,aB])))
  exact⟨_,rfl,_,rfl,.refl _⟩
set_option maxRecDepth 8000 in
theorem Im(g m:Bytes)(x:Bool)(ps:List (Bytes×Bytes))(v:Bytes)(hm:m.length≤1000000)(hv:v.length≤1000000):ad Tryz.prog 36 [.agg [.str g,.str m,.vsl 3 x (ps.map aD),.str v],.int .i64 6] (.ret (.str (bJ m v 6))):=by
 have hn:ad Tryz.prog 35 [.agg [.str g,.str m,.vsl 3 x (ps.map aD),.str v],.str bB] (.ret (.bool (small m==bB))):=ij ⟨g,m,x,ps,v⟩ bB hm;have hu:=mb v hv;by_cases h:small m=bB
 case pos=>
  rw[h,beq_self_eq_true]at hn;simp only[bB]at hn h;have e:bJ m v 6=cH v:=by simp[bJ,bI,h,nFN,nN,dU,bA,cu,bB,dV]
  rw[e];refine ad.of Tryz.func36 rfl (ab enters Tryz.func36 rfl) (by simp[Tryz.ntmps36]) ?_;show W Tryz.prog 65 0 none _ _ _;refine W.vc (by decide) ?_
  repeat'(first|(simp(disch:=first|omega|(simp only[zL];omega))only[go_sem,seval])|((with_reducible first|apply aj.pure|apply ar.pure);(with_reducible assumption);(first|rfl|simp only[go_sem,aB])))
  exact⟨_,rfl,_,rfl,.refl _⟩
 case neg=>
  rw[beq_eq_false_iff_ne.2 h]at hn;simp only[bB]at hn h;have e:bJ m v 6=[]:=by simp[bJ,bI,h,nFN,nN,dU,bA,cu,bB,dV]
  rw[e];refine ad.of Tryz.func36 rfl (ab enters Tryz.func36 rfl) (by simp[Tryz.ntmps36]) ?_;show W Tryz.prog 65 0 none _ _ _;refine W.vc (by decide) ?_
  repeat'(first|(simp(disch:=first|omega|(simp only[zL];omega))only[go_sem,seval])|((with_reducible first|apply aj.pure|apply ar.pure);(with_reducible assumption);(first|rfl|simp only[go_sem,aB])))
  exact⟨_,rfl,_,rfl,.refl _⟩
set_option maxRecDepth 8000 in
theorem Io(g m:Bytes)(x:Bool)(ps:List (Bytes×Bytes))(v:Bytes)(hm:m.length≤1000000)(hv:v.length≤1000000):ad Tryz.prog 36 [.agg [.str g,.str m,.vsl 3 x (ps.map aD),.str v],.int .i64 7] (.ret (.str (bJ m v 7))):=by
 have hn:ad Tryz.prog 35 [.agg [.str g,.str m,.vsl 3 x (ps.map aD),.str v],.str dV] (.ret (.bool (small m==dV))):=ij ⟨g,m,x,ps,v⟩ dV hm;have hu:=mb v hv;by_cases h:small m=dV
 case pos=>
  rw[h,beq_self_eq_true]at hn;simp only[dV]at hn h;have e:bJ m v 7=cH v:=by simp[bJ,bI,h,nFN,nN,dU,bA,cu,bB,dV]
  rw[e];refine ad.of Tryz.func36 rfl (ab enters Tryz.func36 rfl) (by simp[Tryz.ntmps36]) ?_;show W Tryz.prog 65 0 none _ _ _;refine W.vc (by decide) ?_
  repeat'(first|(simp(disch:=first|omega|(simp only[zL];omega))only[go_sem,seval])|((with_reducible first|apply aj.pure|apply ar.pure);(with_reducible assumption);(first|rfl|simp only[go_sem,aB])))
  exact⟨_,rfl,_,rfl,.refl _⟩
 case neg=>
  rw[beq_eq_false_iff_ne.2 h]at hn;simp only[dV]at hn h;have e:bJ m v 7=[]:=by simp[bJ,bI,h,nFN,nN,dU,bA,cu,bB,dV]
  rw[e];refine ad.of Tryz.func36 rfl (ab enters Tryz.func36 rfl) (by simp[Tryz.ntmps36]) ?_;show W Tryz.prog 65 0 none _ _ _;refine W.vc (by decide) ?_
  repeat'(first|(simp(disch:=first|omega|(simp only[zL];omega))only[go_sem,seval])|((with_reducible first|apply aj.pure|apply ar.pure);(with_reducible assumption);(first|rfl|simp only[go_sem,aB])))
  exact⟨_,rfl,_,rfl,.refl _⟩
theorem Kz(l:Ln)(f:Nat)(hf:f<8)(hm:l.n.length≤1000000)(hv:l.v.length≤1000000):ad Tryz.prog 36 [aw l,.int .i64 (f:Int)] (.ret (.str (bI l f))):=by
 rw[BS];obtain⟨g,m,x,ps,v⟩:=l
 match f,hf with
 |0,_=>exact Ig g m x ps v hm hv
 |1,_=>exact Ih g m x ps v hm hv
 |2,_=>exact Ii g m x ps v hm hv
 |3,_=>exact Ij g m x ps v hm hv
 |4,_=>exact Ik g m x ps v hm hv
 |5,_=>exact Il g m x ps v hm hv
 |6,_=>exact Im g m x ps v hm hv
 |7,_=>exact Io g m x ps v hm hv
theorem vN(l:List Bytes):(l.map AV.str).flatMap AV.cells=l.map .str:=dE l
theorem yO(l:List Bytes):(l.map AV.str).all AV.isC=true:=by
 rw[List.all_eq_true];intro v hv;obtain⟨x,_,rfl⟩:=List.mem_map.1 hv;rfl
theorem oK(H:List OB)(y:AV)(l:List Bytes)(hn:cp 1 y H=some (l.length,l.map .str))(hl:l.length≤1000000)(h0:l≠ []):
    aE Tryz.prog 25 25 (.vsl 0 true []) y H=some (.sl H.length 0 l.length 0,H++[.cells (l.map .str) true]):=by
  have h: ¬l.length=0:=by simpa using h0
  simp only[aE,apX,Tryz.underlying25,gH,hn,cO,esz,↓reduceIte,List.length_nil,Nat.zero_add,List.flatMap_nil,List.nil_append,h];rw[if_pos (by omega)]
theorem nj(H:List OB)(y:AV)(hn:cp 1 y H=some (0,[])):aE Tryz.prog 25 25 (.vsl 0 true []) y H=some (.vsl 0 true [],H):=by
 simp only[aE,apX,Tryz.underlying25,gH,hn,↓reduceIte]
theorem rY(H:List OB)(id:Nat)(a:List Bytes)(y:AV)(l:List Bytes)(hid:H[id]? =some (.cells (a.map .str) true))(hn:cp 1 y H=some (l.length,l.map .str))(hl:a.length+l.length≤1000000)(h0:l≠ []):
    aE Tryz.prog 25 25 (.sl id 0 a.length 0) y H=some (.sl H.length 0 (a.length+l.length) 0,H.set id .dead++[.cells ((a++l).map .str) true]):=by
  have h:0<l.length:=List.length_pos_iff.2 h0;simp only[aE,apX,Tryz.underlying25,gH,hn,hid,esz,↓reduceIte,yO,List.length_map,Nat.zero_add,Nat.mul_one];rw[if_pos ⟨trivial,trivial,by omega,Nat.le_refl _⟩,if_neg (by omega)];simp
theorem xC(H:List OB)(id:Nat)(a:List Bytes)(y:AV)(hid:H[id]? =some (.cells (a.map .str) true))(hn:cp 1 y H=some (0,[]))(hl:a.length≤1000000):
    aE Tryz.prog 25 25 (.sl id 0 a.length 0) y H=some (.sl id 0 a.length 0,H):=by
  simp only[aE,apX,Tryz.underlying25,gH,hn,hid,esz,↓reduceIte,List.length_map,Nat.zero_add,Nat.mul_one,Nat.add_zero,cz,List.all_nil];rw[if_pos ⟨trivial,trivial,by omega,Nat.le_refl _⟩,if_pos (Nat.le_refl _)];congr 2;obtain⟨hlt,hv⟩:=List.getElem?_eq_some_iff.1 hid;rw[←hv];exact List.set_getElem_self hlt
theorem nk(H:List OB)(id off n:Nat)(l:List Bytes)(o:Bool)(hid:H[id]? =some (.cells (l.map .str) o))(h:off+n≤l.length):cp 1 (.sl id off n 0) H=some (((l.drop off).take n).length,((l.drop off).take n).map .str):=by
 simp only[cp,cO,hid,esz,↓reduceIte,Nat.mul_one,List.length_map];rw[if_pos ⟨trivial,h⟩];simp[List.map_drop,List.map_take];omega
theorem fV(H:List OB)(x:Bool)(l:List Bytes):cp 1 (.vsl 0 x (l.map .str)) H=some (l.length,l.map .str):=by
 simp only[cp,cO,esz,↓reduceIte,List.length_map,vN]
theorem ES{m i:Nat}{H:List OB}{b:OB}(h:H[i]? =some b)(hb:b.hlt m=true):bm m H (List.replicate i .dead++[b]):=by
 have hi:=(List.getElem?_eq_some_iff.1 h).1;obtain⟨u,hu,hd⟩:=drop_at hi;rw[h]at hu;cases hu;have e:H=H.take i++b::H.drop (i+1):=by rw[←hd,List.take_append_drop]
 rw[e];exact gJ (by simp;omega) (kL (j:=0) hb (Nat.zero_le _))
def iV(k:Nat)(z:Bool)(L:List Bytes):List OB:=mem [] AV.str k 0 z L
def pz(k:Nat)(z:Bool)(L:List Bytes):AV:=bp 0 0 0 AV.str k z L
theorem xD(k:Nat)(L:List Bytes):(iV k true L)[k]? =some (.cells (L.map .str) true):=by
 have:=dR (B:=[]) (f:=AV.str) (k:=k) (j:=0) (L:=L);rw[List.length_nil,Nat.zero_add]at this;rw[iV,this,be,dE]
theorem tR{H:List OB}{id:Nat}{L:List Bytes}(h:H[id]? =some (.cells (L.map .str) true))(m:Nat):bm m H (iV id true L):=by
 have:=ES (m:=m) h (by simpa[OB.hlt]using bH m L);have e:iV id true L=List.replicate id .dead++[.cells (L.map .str) true]:=by simp[iV,mem,be,dE]
 rw[e];exact this
theorem oL(k:Nat)(L:List Bytes):pz k true L=.sl k 0 L.length 0:=by simp[pz,bp]
theorem vO(k:Nat):pz k false []=.vsl 0 true []:=rfl
theorem lf(k:Nat)(z:Bool)(L:List Bytes):(pz k z L).hlt (iV k z L).length=true:=by
 cases z
 ·simp[pz,bp,AV.hlt,bH]
 ·simp[pz,bp,AV.hlt,iV,aJ]
theorem yP(k:Nat)(z:Bool)(L:List Bytes)(m:Nat):bm m (iV k z L) (iV k z L):=dr (by
 cases z
 ·simp only[iV,mem,Bool.false_eq_true,if_false,List.append_nil,List.nil_append];exact kK m k
 ·simp only[iV,mem,if_true,List.nil_append,List.all_append,kK,Bool.true_and,be,dE]
  simp[OB.hlt,bH])
def gT(l:List Bytes)(i:Nat):List Bytes:=mS (l.take i)
theorem qu{l:List Bytes}{i:Nat}{s:Bytes}(h:l[i]? =some s):gT l (i+1)=ig s (gT l i):=by
 unfold gT mS;rw[List.take_add_one,h,List.foldl_append];rfl
theorem vP(l:List Bytes)(i:Nat):List.Pairwise (fun a b:Bytes=>a<b) (gT l i):=(Km (l.take i) [] .nil).1
theorem tS(s:Bytes):∀l:List Bytes,(ig s l).length≤l.length+1
 | []=>by simp[ig]
 |o::t=>by
  have:=tS s t;rw[ig];split
  ·simp only[List.length_cons];omega
  ·split<;>simp
theorem tT(l:List Bytes):∀i,(gT l i).length≤i
 |0=>by simp[gT,mS]
 | i+1=>by
  have ih:=tT l i;cases h:l[i]? with
  |none=>
   have:gT l (i+1)=gT l i:=by unfold gT;rw[List.take_add_one,h];simp
   rw[this];omega
  |some s=>rw[qu h];have:=tS s (gT l i);omega
theorem ET (k:Nat) (z:Bool) (O:List Bytes) (s:Bytes) (kk:Nat) (hk:kk≤O.length) (hz:z=true↔O≠ []) (hb:O.length≤100000):
    ∃ v1 v2 v3 v4 v5 H1 H2 H3 id,aM Tryz.prog 25 (pz k z O) none (some (.int .i64 (kk:Int))) none=some v1∧aE Tryz.prog 25 25 (.vsl 0 true []) (deN v1) (iV k z O)=some (v2,H1)∧deN v2=v2∧
      aE Tryz.prog 25 25 v2 (.vsl 0 true [.str s]) H1=some (v3,H2)∧deN v3=v3∧aM Tryz.prog 25 (pz k z O) (some (.int .i64 (kk:Int))) none none=some v4∧
      aE Tryz.prog 25 25 v3 (deN v4) H2=some (v5,H3)∧v5=.sl id 0 (O.take kk++s::O.drop kk).length 0∧H3[id]? =some (.cells ((O.take kk++s::O.drop kk).map .str) true):=by
  obtain⟨M,hM⟩: ∃M,M=iV k z O:=⟨_,rfl⟩
  rw[←hM];have hs1: ∀(H:List OB),cp 1 (.vsl 0 true [.str s]) H=some ([s].length,[s].map .str):=fun H=>fV H true [s];have hv0: ∀(H:List OB) (x:Bool),cp 1 (.vsl 0 x []) H=some (0,[]):=fun H x=>fV H x [];cases z with
  | false=>
    have hO:O=[]:=by
      rcases O with _|⟨a,t⟩
      · rfl
      · exact absurd (hz.2 (by simp)) (by simp)
    subst hO;have hkk:kk=0:=by simpa using hk
    subst hkk;have e1:=oK M (.vsl 0 true [.str s]) [s] (hs1 M) (by simp) (by simp);have e2:=xC (M++[.cells ([s].map .str) true]) M.length [s] (.vsl 0 true []) (by simp) (hv0 _ true) (by simp);refine⟨.vsl 0 true [],.vsl 0 true [],_,.vsl 0 true [],_,M,_,_,M.length,?_,nj M _ (hv0 M true),rfl,e1,rfl,?_,e2,rfl,by simp⟩
    · rw[vO];simp[aM,Tryz.underlying25,tz9,iw,idx]
    · rw[vO];simp[aM,Tryz.underlying25,tz9,iw,idx]
  | true =>
    have hO:O≠ []:=hz.1 rfl;have hO1:0<O.length:=List.length_pos_iff.2 hO;have hMk:M[k]? =some (.cells (O.map .str) true):=by rw[hM];exact xD k O
    have hkM:k<M.length:=(List.getElem?_eq_some_iff.1 hMk).1;rw[oL];have hsl1:aM Tryz.prog 25 (.sl k 0 O.length 0) none (some (.int .i64 (kk:Int))) none=some (.sl k 0 kk 0):=by
      simp only[aM,Tryz.underlying25,tz9,gl .i64 kk hk,esz,↓reduceIte];simp
    have hdV: ∀a b c,deN (.sl a b c 0)=.sl a b c 0:=fun _ _ _=>rfl;by_cases h0:kk=0
    · subst h0
      have n1:cp 1 (.sl k 0 0 0) M=some (0,[]):=by have:=nk M k 0 0 O true hMk (by omega);simpa using this
      have e1:=oK M (.vsl 0 true [.str s]) [s] (hs1 M) (by simp) (by simp);obtain⟨H2,hH2⟩: ∃H2,H2=M++[OB.cells ([s].map AV.str) true]:=⟨_,rfl⟩
      rw[←hH2]at e1;have g1:H2[k]? =some (.cells (O.map .str) true):=by rw[hH2];exact aZ hMk
      have g2:H2[M.length]? =some (.cells ([s].map .str) true):=by rw[hH2];simp
      have n2:cp 1 (.sl k 0 O.length 0) H2=some (O.length,O.map .str):=by
        have:=nk H2 k 0 O.length O true g1 (by omega);rw[List.drop_zero,List.take_of_length_le (Nat.le_refl _)]at this;exact this
      have e2:=rY H2 M.length [s] (.sl k 0 O.length 0) O g2 n2 (by simp;omega) hO;have hsl2:aM Tryz.prog 25 (.sl k 0 O.length 0) (some (.int .i64 ((0:Nat):Int))) none none=some (.sl k 0 O.length 0):=by
        simp only[aM,Tryz.underlying25,tz9,bn .i64 0 (Nat.zero_le _),esz,↓reduceIte];simp
      refine⟨.sl k 0 0 0,.vsl 0 true [],_,.sl k 0 O.length 0,_,M,H2,_,H2.length,hsl1,nj M _ n1,rfl,e1,rfl,hsl2,e2,?_,?_⟩
      · simp;omega
      · simp
    · have hkk:(O.take kk).length=kk:=by simp;omega
      have htk:O.take kk≠ []:=by intro e;rw[e]at hkk;exact h0 hkk.symm
      have n1:cp 1 (.sl k 0 kk 0) M=some ((O.take kk).length,(O.take kk).map .str):=by have:=nk M k 0 kk O true hMk (by rw[Nat.zero_add];exact hk);rw[List.drop_zero]at this;exact this
      have e0:=oK M (.sl k 0 kk 0) (O.take kk) n1 (by rw[hkk];omega) htk;obtain⟨H1,hH1⟩: ∃H1,H1=M++[OB.cells ((O.take kk).map AV.str) true]:=⟨_,rfl⟩
      rw[←hH1]at e0;have g0:H1[M.length]? =some (.cells ((O.take kk).map .str) true):=by rw[hH1];simp
      have e1:=rY H1 M.length (O.take kk) (.vsl 0 true [.str s]) [s] g0 (hs1 H1) (by simp;omega) (by simp);obtain⟨H2,hH2⟩: ∃H2,H2=H1.set M.length .dead++[OB.cells ((O.take kk++[s]).map AV.str) true]:=⟨_,rfl⟩
      rw[←hH2]at e1;have hl1:H1.length=M.length+1:=by rw[hH1];simp
      have g1:H2[k]? =some (.cells (O.map .str) true):=by
        rw[hH2];refine aZ ?_;rw[List.getElem?_set_ne (by omega),hH1];exact aZ hMk
      have g2:H2[H1.length]? =some (.cells ((O.take kk++[s]).map .str) true):=by
        rw[hH2,List.getElem?_append_right (by simp),List.length_set,Nat.sub_self];rfl
      have hl2:(O.take kk).length+[s].length=(O.take kk++[s]).length:=by simp
      rw[hl2]at e1;by_cases hkn:kk=O.length
      · have hd:O.drop kk=[]:=List.drop_of_length_le (by omega)
        have hsl2:aM Tryz.prog 25 (.sl k 0 O.length 0) (some (.int .i64 (kk:Int))) none none=some (.vsl 0 false []):=by
          simp only[aM,Tryz.underlying25,tz9,bn .i64 kk hk,esz,↓reduceIte];rw[if_neg (by omega)]
        have e2:=xC H2 H1.length (O.take kk++[s]) (.vsl 0 false []) g2 (hv0 H2 false) (by simp;omega);refine⟨.sl k 0 kk 0,_,_,.vsl 0 false [],_,H1,H2,_,H1.length,hsl1,e0,rfl,e1,rfl,hsl2,e2,?_,?_⟩
        · rw[hd]
        · rw[hd];exact g2
      · have hd0:O.drop kk≠ []:=by intro e;have:=congrArg List.length e;simp at this;omega
        have hsl2:aM Tryz.prog 25 (.sl k 0 O.length 0) (some (.int .i64 (kk:Int))) none none=some (.sl k kk (O.length - kk) 0):=by
          simp only[aM,Tryz.underlying25,tz9,bn .i64 kk hk,esz,↓reduceIte];rw[if_pos (by omega)];simp
        have n2:cp 1 (.sl k kk (O.length - kk) 0) H2=some ((O.drop kk).length,(O.drop kk).map .str):=by
          have:=nk H2 k kk (O.length - kk) O true g1 (by omega);rw[List.take_of_length_le (by simp)]at this;exact this
        have e2:=rY H2 H1.length (O.take kk++[s]) (.sl k kk (O.length - kk) 0) (O.drop kk) g2 n2 (by simp;omega) hd0;refine⟨.sl k 0 kk 0,_,_,.sl k kk (O.length - kk) 0,_,H1,H2,_,H2.length,hsl1,e0,rfl,e1,rfl,hsl2,e2,?_,?_⟩
        · simp;omega
        · rw[List.getElem?_append_right (by simp),List.length_set,Nat.sub_self];simp
def tV(f:Nat)(l:List Bytes):List Bytes:=if f<6 then l else mS l
theorem BT(l:List Bytes):gT l l.length=mS l:=by unfold gT;rw[List.take_length]
set_option maxRecDepth 8000 in
theorem BU(f:Nat)(hf:f<8)(x:Bool)(l:List Bytes)(hl:l.length≤100000):ad Tryz.prog 37 [.int .i64 (f:Int),.vsl 0 x (l.map .str)] (.ret (.vsl 0 false ((tV f l).map .str))):=by
 by_cases h6:f<6
 case pos=>
  have e:tV f l=l:=if_pos h6;rw[e];by_cases h0:l=[]
  case pos=>
   subst h0;have ha:=nj [] (.vsl 0 x []) (fV [] x []);simp only[List.map_nil];refine ad.of Tryz.func37 rfl (ab enters Tryz.func37 rfl) (by simp[Tryz.ntmps37]) ?_;show W Tryz.prog 65 0 none _ _ _;refine W.vc (by decide) ?_
   repeat'(first|(simp(disch:=first|omega|(simp only[zL];omega))only[go_sem,seval,ha]))
   exact rn 4 rfl rfl rfl rfl (.nil _ _ _)
  case neg=>
   have ha:=oK [] (.vsl 0 x (l.map .str)) l (fV [] x l) (by omega) h0;refine ad.of Tryz.func37 rfl (ab enters Tryz.func37 rfl) (by simp[Tryz.ntmps37]) ?_;show W Tryz.prog 65 0 none _ _ _;refine W.vc (by decide) ?_
   repeat'(first|(simp(disch:=first|omega|(simp only[zL];omega))only[go_sem,seval,ha]))
   refine kI 4 rfl rfl rfl (u:=.vsl 0 false (l.map .str)) ?_ (.refl _);have e:(l.map AV.str).take l.length=l.map .str:=List.take_of_length_le (by simp);have:=lL (k:=19) (off:=0) (len:=l.length) (H:=[]++[.cells (l.map .str) true]) (id:=0) (cs:=l.map .str) (opn:=true) rfl (by simp) (by rw[List.drop_zero,e];exact az l) (by rw[List.drop_zero,e];exact di l);rwa[List.drop_zero,e]at this
 case neg=>
 have e:tV f l=mS l:=if_neg h6;rw[e];refine ad.of Tryz.func37 rfl (ab enters Tryz.func37 rfl) (by simp[Tryz.ntmps37]) ?_;show W Tryz.prog 65 0 none _ _ _;refine W.vc (by decide) ?_
 repeat'(first|(simp(disch:=first|omega|(simp only[zL];omega))only[go_sem,seval]))
 refine W.nP (X:=Nat×Nat×Bool) (fun y=>[(6,.int .i64 (y.1:Int)),(5,pz y.2.1 y.2.2 (gT l y.1)),(1,.vsl 0 x (l.map .str))]) (fun y=>iV y.2.1 y.2.2 (gT l y.1))
  (fun y=>y.1≤l.length∧(y.2.2=true↔gT l y.1≠ [])) (fun y=>l.length - y.1) (0,0,false) (fun _=>Nat.zero_le _) rfl ⟨Nat.zero_le _,by simp[gT,mS]⟩ ?_ ?_ ?_ ?_
 ·simp only[bz,Av.get,Nat.reduceEqDiff,↓reduceIte,bg,dk,dm,and_self,true_and,and_true,List.length_map,List.length_nil]
  exact Le.refl _
 ·simp[cm,AV.hlt,bH,lf]
 ·simp[bm,iV,mem,gT,mS]
 rintro⟨i,k,z⟩ ⟨hi,hz⟩;simp only at hi hz ⊢;by_cases h:i<l.length
 case neg=>
  have e:i=l.length:=by omega
  subst e;rw[BT]at hz ⊢;refine .vc (by decide) ?_
  repeat'(first|(simp(disch:=first|omega|(simp only[zL];omega))only[go_sem,seval]))
  obtain⟨w,hz2,hw⟩:=ia (B:=[]) (f:=AV.str) (w0:=0) (k:=k) (z:=z) (L:=mS l) (n:=19) (M:=iV k z (mS l)) (fun hz=>by subst hz;exact dR) (az _) (di _);exact kI 4 rfl rfl rfl hz2 (by rcases hw with rfl|rfl<;>first|exact .exact _ _ _|exact .refl _)
 obtain⟨s,hs,_⟩:=drop_at h;have his:∀H,ak Tryz.prog 25 (.vsl 0 x (l.map .str)) (.int .i64 (i:Int)) H=some (.vptr [.str s]):=fun H=>eJ (v:=.str s) (by simp[hs]) rfl H;have hsucc:=qu hs;have hris:=vP l i;have hOl:=tT l i;generalize gT l i=O at*;obtain⟨V,hV⟩:∃V,V=pz k z O:=⟨_,rfl⟩
 obtain⟨M,hM⟩:∃M,M=iV k z O:=⟨_,rfl⟩
 have hde:deN V=V:=by rw[hV];exact eC _ _ _ _ _ _ _
 have hzf:z=false→O=[]:=by
  intro h;subst h;rcases O with _|⟨a,t⟩
  ·rfl
  ·exact absurd (hz.2 (by simp)) (by simp)
 have hln:aI Tryz.prog 25 V M=some (.int .i64 (O.length:Int)):=by
  rw[hV];cases z
  ·rw[hzf rfl];simp[vO,aI,Tryz.underlying25]
  ·rw[oL];simp[aI,Tryz.underlying25]
 have hget:∀(kk:Nat) o,O[kk]? =some o→ak Tryz.prog 25 V (.int .i64 (kk:Int)) M=some (.ptr k kk)∧ao Tryz.prog 9 (.ptr k kk) M=some (.str o):=by
  intro kk o ho;have hkl:=(List.getElem?_eq_some_iff.1 ho).1;cases z with
  |false=>rw[hzf rfl]at ho;simp at ho
  | true=>
   constructor
   ·rw[hV,oL];simp[ak,bt,Tryz.underlying25,tz9,hkl]
   ·have:=xD k O
    rw[←hM]at this;have ho2:(O.map AV.str)[kk]? =some (.str o):=by simp[ho]
    rw[ld9];simp only[ldC,this,ho2]
 rw[←hV,←hM];refine .seq (.vc (by decide) ?_)
 repeat'(first|(simp(disch:=first|omega|(simp only[zL];omega))only[go_sem,seval]))
 refine .seq (.block ?_);refine .seq (.vc (by decide) ?_)
 repeat'(first|(simp(disch:=first|omega|(simp only[zL];omega))only[go_sem,seval]))
 refine .seq (.block ?_);refine W.bc (X:=Nat) (fun kk=>[(7,.int .i64 (kk:Int)),(6,.int .i64 (i:Int)),(5,V),(1,.vsl 0 x (l.map .str))]) (fun _=>M) (fun kk=>kk≤O.length∧∀o∈O.take kk,o<s) (fun kk=>O.length - kk) 0 ⟨Nat.zero_le _,by simp⟩ ⟨rfl,rfl,rfl,rfl,trivial⟩ rfl ?_;rintro kk ⟨hk,hlt⟩;have hbs:=ma s;have last:(∀o,O[kk]? =some o→¬o<s∧o≠s)→gT l (i+1)=O.take kk++s::O.drop kk:=by
  intro h;rw[hsucc,rM s O hris kk hk hlt (fun o ho=>(h o ho).1),if_neg];intro e;exact(h s e).2 rfl
 obtain⟨v1,v2,v3,v4,v5,H1,H2,H3,id,a1,a2,a3,a4,a5,a6,a7,a8,a9⟩:=ET k z O s kk hk hz (by omega);rw[←hM]at a2;rw[←hV]at a1 a6;by_cases hkn:kk<O.length
 ·obtain⟨o,ho,_⟩:=drop_at hkn
  obtain⟨g1,g2⟩:=hget kk o ho;cases hc:Op.bytesLess o s with
  |true=>
   have hos:o<s:=by rw[rJ]at hc;simpa using hc
   refine .vc (by decide) ?_
   repeat'(first|(simp(disch:=first|omega|(simp only[zL];omega))only[go_sem,seval]))
   refine W.bw [] [false,false,false,false,false,false,false,false,false,false,false,false,false,false,false] [] mixed (by kernel_rfl) (by kernel_rfl) (by kernel_rfl) ?_
   repeat'(first|(simp(disch:=first|omega|(simp only[zL];omega))only[go_sem,seval,hln,hde,g1,g2,his,BK,hc]))
   refine⟨kk+1,⟨by omega,?_⟩,by omega,rfl,rfl,rfl,rfl,trivial⟩;intro p hp;rw[List.take_add_one,ho]at hp;rcases List.mem_append.1 hp with h|h
   ·exact hlt p h
   ·simp at h;subst h;exact hos
  | false=>
   have hos:¬o<s:=by rw[rJ]at hc;simpa using hc
   refine .vc (by decide) ?_
   repeat'(first|(simp(disch:=first|omega|(simp only[zL];omega))only[go_sem,seval]))
   refine W.bw [] [false,false,false,false,false,false,false,false,false,false,false,false,false,false,false] [] mixed (by kernel_rfl) (by kernel_rfl) (by kernel_rfl) ?_
   repeat'(first|(simp(disch:=first|omega|(simp only[zL];omega))only[go_sem,seval,hln,hde,g1,g2,his,BK,hc]))
   cases hq:(o==s)with
   | true=>
    have hos2:o=s:=by simpa using hq
    have e:gT l (i+1)=O:=by rw[hsucc,rM s O hris kk hk hlt (fun p hp=>by rw[ho]at hp;cases hp;exact hos),if_pos (by rw[ho,hos2])]
    refine .vc (by decide) ?_
    repeat'(first|(simp(disch:=first|omega|(simp only[zL];omega))only[go_sem,seval]))
    refine W.bw [] [false,false,false,false,false,false,false,false,false,false,false,false,false,false,false] [] mixed (by kernel_rfl) (by kernel_rfl) (by kernel_rfl) ?_
    repeat'(first|(simp(disch:=first|omega|(simp only[zL];omega))only[go_sem,seval,hln,hde,g1,g2,his,hq]))
    refine .vc (by decide) ?_
    repeat'(first|(simp(disch:=first|omega|(simp only[zL];omega))only[go_sem,seval]))
    refine⟨(i+1,k,z),⟨by simp only;omega,by simp only;rw[e];exact hz⟩,by simp only;omega,?_,?_,?_⟩
    ·simp only[e,←hV]
     simp only[bz,Av.get,Nat.reduceEqDiff,↓reduceIte,bg,dk,dm,and_self,true_and,and_true,List.length_map,List.length_nil]
    ·simp only[e];simp[cm,AV.hlt,bH,lf]
    ·simp only[e];rw[hM];exact yP _ _ _ _
   | false=>
    have hos2:o≠s:=by simpa using hq
    refine .vc (by decide) ?_
    repeat'(first|(simp(disch:=first|omega|(simp only[zL];omega))only[go_sem,seval]))
    refine W.bw [] [false,false,false,false,false,false,false,false,false,false,false,false,false,false,false] [] mixed (by kernel_rfl) (by kernel_rfl) (by kernel_rfl) ?_
    repeat'(first|(simp(disch:=first|omega|(simp only[zL];omega))only[go_sem,seval,hln,hde,g1,g2,his,hq]))
    refine W.bw [3,9,13] [false,false,false,true,false,false,false,false,false,true,false,false,false,true,false] [(6,0),(7,0)] mixed (by kernel_rfl) (by kernel_rfl) (by kernel_rfl) ?_
    repeat'(first|(simp(disch:=first|omega|(simp only[zL];omega))only[go_sem,seval,hde,a1,a2,a3,a4,a5,a6,a7,his,hbs]))
    refine .vc (by decide) ?_
    repeat'(first|(simp(disch:=first|omega|(simp only[zL];omega))only[go_sem,seval]))
    have e:=last (fun p hp=>by rw[ho]at hp;cases hp;exact⟨hos,hos2⟩);refine⟨(i+1,id,true),⟨by simp only;omega,by simp only;rw[e];simp⟩,by simp only;omega,?_,?_,?_⟩
    ·simp only[e,oL,a8]
     simp only[bz,Av.get,Nat.reduceEqDiff,↓reduceIte,bg,dk,dm,and_self,true_and,and_true,List.length_map,List.length_nil]
    ·simp only[e];simp[cm,AV.hlt,bH,lf]
    ·simp only[e];exact tR a9 _
 ·refine .vc (by decide) ?_
  repeat'(first|(simp(disch:=first|omega|(simp only[zL];omega))only[go_sem,seval]))
  refine W.bw [] [false,false,false,false,false,false,false,false,false,false,false,false,false,false,false] [] mixed (by kernel_rfl) (by kernel_rfl) (by kernel_rfl) ?_
  repeat'(first|(simp(disch:=first|omega|(simp only[zL];omega))only[go_sem,seval,hln,hde,his]))
  refine .vc (by decide) ?_
  repeat'(first|(simp(disch:=first|omega|(simp only[zL];omega))only[go_sem,seval]))
  refine W.bw [] [false,false,false,false,false,false,false,false,false,false,false,false,false,false,false] [] mixed (by kernel_rfl) (by kernel_rfl) (by kernel_rfl) ?_
  repeat'(first|(simp(disch:=first|omega|(simp only[zL];omega))only[go_sem,seval,hln,hde,his]))
  refine W.bw [3,9,13] [false,false,false,true,false,false,false,false,false,true,false,false,false,true,false] [(6,0),(7,0)] mixed (by kernel_rfl) (by kernel_rfl) (by kernel_rfl) ?_
  repeat'(first|(simp(disch:=first|omega|(simp only[zL];omega))only[go_sem,seval,hde,a1,a2,a3,a4,a5,a6,a7,his,hbs]))
  refine .vc (by decide) ?_
  repeat'(first|(simp(disch:=first|omega|(simp only[zL];omega))only[go_sem,seval]))
  have e:=last (fun p hp=>by rw[List.getElem?_eq_none (by omega)]at hp;cases hp);refine⟨(i+1,id,true),⟨by simp only;omega,by simp only;rw[e];simp⟩,by simp only;omega,?_,?_,?_⟩
  ·simp only[e,oL,a8]
   simp only[bz,Av.get,Nat.reduceEqDiff,↓reduceIte,bg,dk,dm,and_self,true_and,and_true,List.length_map,List.length_nil]
  ·simp only[e];simp[cm,AV.hlt,bH,lf]
  ·simp only[e];exact tR a9 _
theorem EU(x:Bool)(l:List Bytes):ad Tryz.prog 34 [.vsl 0 x (l.map .str)] (.ret (.func (.func 74) [] [.vptr [.vsl 0 x (l.map .str)]])):=by
 refine ad.of Tryz.func34 rfl (ab enters Tryz.func34 rfl) (by simp[Tryz.ntmps34]) ?_;show W Tryz.prog 4 0 none _ _ _;refine W.vc (by decide) ?_
 repeat'(first|(simp(disch:=first|omega|(simp only[zL];omega))only[go_sem,seval]))
 exact kI 2 rfl rfl rfl (vG (by simpa[AV.hf]using az l)) (.refl _)
theorem EV (yid:Nat) (x:Bool) (l:List Bytes) (hL:l.length≤1000000) (H:List OB) (J:List Bytes→List OB→Prop) (hJ:J [] H)
    (hstep: ∀s b K,s.length<l.length→J s K→ ∃K',YFn Tryz.prog yid [.str b] K (.ret (.bool true)) K'∧J (s++[b]) K'):
    ba Tryz.prog 74 [.yld yid,.vptr [.vsl 0 x (l.map .str)]] H (fun out K=>out=.ret (.tup [])∧J l K):=by
  refine ba.ofX Tryz.func74 rfl (ab enters Tryz.func74 rfl) (by simp[Tryz.ntmps74]) ?_;show W Tryz.prog 16 _ none _ _ _;have hld: ∀K,ao Tryz.prog 25 (.vptr [.vsl 0 x (l.map .str)]) K=some (.vsl 0 x (l.map .str)):=by intro K;simp[ao,ph,Ag,ldA]
  have hln: ∀K,aI Tryz.prog 25 (.vsl 0 x (l.map .str)) K=some (.int .i64 l.length):=by intro K;simp[aI,Tryz.underlying25]
  refine .vc (by decide) ?_
  repeat'(first|(simp(disch:=first|omega|(simp only[zL];omega))only[go_sem,seval,hld,hln]))
  refine W.loop (X:=Nat) (fun i a=>aC a.T [(0,.yld yid),(5,.vsl 0 x (l.map .str)),(6,.int .i64 l.length),(7,.int .i64 (i:Int))]∧J (l.take i) a.H∧a.D=[]∧i≤l.length) (fun i=>l.length - i) 0 ⟨⟨rfl,rfl,rfl,rfl,trivial⟩,hJ,rfl,Nat.zero_le _⟩ ?_;rintro i ⟨T,K,D⟩ ⟨h1,h2,rfl,h4⟩;simp only at h1 h2 h4;refine W.bG _ h1 (.vc (by decide) ?_);by_cases h:i<l.length
  · obtain⟨b,hb,hdrop⟩:=drop_at h
    have htake:l.take (i+1)=l.take i++[b]:=by rw[List.take_add_one,hb];rfl
    have hbv:(l.map AV.str)[i]? =some (.str b):=by simp[hb]
    have hia: ∀K,ak Tryz.prog 25 (.vsl 0 x (l.map .str)) (.int .i64 (i:Int)) K=some (.vptr [.str b]):=by
      intro K;simp[ak,bt,Tryz.underlying25,tz9,hb,AV.cells]
    have hlv: ∀K,ao Tryz.prog 9 (.vptr [.str b]) K=some (.str b):=by
      intro K;simp[ao,tz9,tg9,ldA]
    obtain⟨K',hy,hJ'⟩:=hstep (l.take i) b K (by simp;omega) h2
    repeat'(first|(simp(disch:=first|omega|(simp only[zL];omega))only[go_sem,seval,hia,hlv])|(guard_target=~ aj _ _ _ _ _ _ _;refine aj.sh hy ?_))
    exact⟨i+1,⟨⟨rfl,rfl,rfl,rfl,trivial⟩,by rw[htake];exact hJ',h⟩,by omega⟩
  · have e:i=l.length:=by omega
    subst e;rw[List.take_length]at h2
    repeat'(first|(simp(disch:=first|omega|(simp only[zL];omega))only[go_sem,seval]))
    exact⟨_,_,⟨rfl,h2⟩,_,rfl,rfl,_,rfl,rfl⟩
theorem gU(l:List Bytes):be AV.str l=l.map .str:=dE l
set_option maxRecDepth 100000 in
theorem MF(x:Bool)(l:List Bytes)(hL:l.length≤1000000):
    ba Tryz.prog 120 [.vsl 0 true [],.func (.func 74) [] [.vptr [.vsl 0 x (l.map .str)]]] [] (eD l):=by
  generalize hg:AV.func (.func 74) [] [.vptr [.vsl 0 x (l.map .str)]]=g;refine ba.of0 Tryz.func120 rfl (ab enters Tryz.func120 rfl) (by simp[Tryz.ntmps120]) ?_;show W Tryz.prog 13 _ none _ _ _;refine .vc (by decide) ?_
  repeat'(first|(simp(disch:=first|omega|(simp only[zL];omega))only[go_sem,seval]))
  have hstep:=EV 2 x l hL ([.cells [.vsl 0 true []] false]++[.dfr,.loop (tC g) lkC]) (fun s K=>jC g s K∧(s=[]→K[0]? =some (.cells [.vsl 0 true []] false))) ⟨⟨rfl,rfl,_,rfl,.inl ⟨rfl,0,rfl⟩,rfl,(by intro i _ h;cases h),rfl⟩,fun _=>rfl⟩ (fun s m K hs hJ=>by
    obtain⟨K',hy,hJ'⟩:=BB g s m K (by omega) hJ.1
    exact⟨K',hy,hJ',fun h=>by simp at h⟩)
  refine W.fN (gf:=74) (fs:=[]) (cs:=[.vptr [.vsl 0 x (l.map .str)]]) (by rw[hg];rfl) (ab enters Tryz.func74 rfl) hstep ?_;rintro out K ⟨rfl,⟨h1,h2,v,h0,hin,hvc,hne,hde⟩,hnil⟩;refine⟨_,_,_,rfl,h2,by simp[lkC],?_⟩;show cw _ _ _ _ _ none;have l2:2<K.length:=(List.getElem?_eq_some_iff.1 h2).1;have k0:ao Tryz.prog 25 (.ptr 0 0) (K.set 2 .dead)=some v:=HU _ 0 v false (by rw[List.getElem?_set,if_neg (by decide)];exact h0);simp(disch:=first|omega|(simp only[zL];omega))only[go_sem,seval,cw,k0];have hd1:(K.set 2 OB.dead)[1]? =some .dfr:=by rw[List.getElem?_set,if_neg (by decide)];exact h1
  have hE: ∀T,fe ⟨T,K.set 2 .dead,[.mark 1]⟩=some ⟨T,(K.set 2 .dead).set 1 .dead,[]⟩:=by intro T;simp[fe,jB,hd1]
  rcases hin with⟨rfl,w,rfl⟩|⟨d,rfl,hd⟩
  · have hw:=hnil rfl
    rw[h0]at hw;cases hw;exact⟨_,hE _,.inl ⟨_,rfl,rfl,.inl ⟨rfl,rfl,rfl⟩⟩⟩
  · have hd2:d≠2:=by rintro rfl;rw[h2]at hd;cases hd
    have hd1':d≠1:=by rintro rfl;rw[h1]at hd;cases hd
    rw[gU]at hd;refine⟨_,hE _,.inr ⟨d,0,l.length,0,l.map .str,true,rfl,?_,az l,.inr ⟨rfl,rfl⟩⟩⟩;show((K.set 2 OB.dead).set 1 OB.dead)[d]? =_;rw[List.getElem?_set,if_neg (by omega),List.getElem?_set,if_neg (by omega)];exact hd
theorem BV(x:Bool)(l:List Bytes)(hL:l.length≤1000000):ba Tryz.prog 72 [.func (.func 74) [] [.vptr [.vsl 0 x (l.map .str)]]] [] (eD l):=by
 refine ba.of0 Tryz.func72 rfl (ab enters Tryz.func72 rfl) (by simp[Tryz.ntmps72]) ?_;show W Tryz.prog 5 _ none _ _ _;refine .vc (by decide) ?_
 repeat'(first|(simp(disch:=first|omega|(simp only[zL];omega))only[go_sem,seval])|(guard_target=~ aj _ _ _ _ _ _ _;refine aj.any (eD l) (MF x l hL) ?_))
 rintro out K (⟨rfl,rfl,rfl⟩|⟨rfl,rfl⟩)
 ·repeat'(first|(simp(disch:=first|omega|(simp only[zL];omega))only[go_sem,seval]))
  exact⟨_,rfl,.inl ⟨_,rfl,rfl,.inl ⟨rfl,rfl,rfl⟩⟩⟩
 ·repeat'(first|(simp(disch:=first|omega|(simp only[zL];omega))only[go_sem,seval]))
  exact⟨_,rfl,.inr ⟨0,0,l.length,0,l.map .str,true,rfl,rfl,az l,.inr ⟨rfl,rfl⟩⟩⟩
theorem KA{H:List OB}{d:Nat}{l:List Bytes}{opn:Bool}(hd:H[d]? =some (.cells (l.map .str) opn))(hl:l.length≤1000000):
    aY Tryz.prog 73 [.sl d 0 l.length 0] H (.ret (.tup [])) (H.set d (.cells ((cq l).map .str) opn)):=
  Eg enters Tryz.func73 rfl (fun blk off cap ss w h1 h2 h3=>Tryz.slices_Sort_string blk off cap ss w h1 h2 h3) hd hl
def pC:yi:={pm:=fun f=>true,gm:=fun _=>false,conP:=fun _ _=>none,conS:=fun _ _ _=>none,fuel:=2000}
theorem rZ:jg Tryz.prog pC:=⟨by kernel_rfl,enters,fun f args out h=>(by cases h),fun f args H out H' h=>(by cases h)⟩
theorem tW:sQ Tryz.prog Tryz.f73 (fY Tryz.prog (du Tryz.prog pC 40) pC.pm Tryz.f73.ntmps false pC.fuel (Tryz.f73.body.getD .skip) ⟨aL 0 [.vsl 0 true []],[],[]⟩)=some (.ret (.tup [])):=by kernel_rfl
theorem EW:ad Tryz.prog 73 [.vsl 0 true []] (.ret (.tup [])):=ad.run rZ 40 Tryz.func73 rfl (by simp[Tryz.ntmps73]) tW
theorem EX(x:Bool)(l:List Bytes)(hL:l.length≤1000000):ba Tryz.prog 33 [.func (.func 74) [] [.vptr [.vsl 0 x (l.map .str)]]] [] (eD (cq l)):=by
 refine ba.of0 Tryz.func33 rfl (ab enters Tryz.func33 rfl) (by simp[Tryz.ntmps33]) ?_;show W Tryz.prog 9 _ none _ _ _;have hsl:(cq l).length=l.length:=(List.mergeSort_perm l _).length_eq;refine .vc (by decide) ?_
 repeat'(first|(simp(disch:=first|omega|(simp only[zL];omega))only[go_sem,seval])|(guard_target=~ aj _ _ _ _ _ _ _;refine aj.any (eD l) (BV x l hL) ?_))
 rintro out K (⟨rfl,rfl,rfl⟩|⟨rfl,rfl⟩)
 ·have hl:∀H o,aG H [.vsl 0 true []] o=some [.vsl 0 true []]:=by intro H o;rfl
  have h0:cq []=[]:=by simp[cq]
  repeat'(first|(simp(disch:=first|omega|(simp only[zL];omega))only[go_sem,seval,hl])|((with_reducible first|apply aj.pure|apply ar.pure);(with_reducible exact EW);(first|rfl|simp only[go_sem])))
  exact⟨_,rfl,.inl ⟨_,rfl,rfl,.inl ⟨h0,rfl,rfl⟩⟩⟩
 ·have hs:=KA (H:=[.cells (l.map .str) true]) (d:=0) (l:=l) (opn:=true) rfl hL
  simp only[List.set_cons_zero]at hs
  repeat'(first|(simp(disch:=first|omega|(simp only[zL];omega))only[go_sem,seval])|(guard_target=~ aj _ _ _ _ _ _ _;refine aj.sh hs ?_))
  exact⟨_,rfl,.inr ⟨0,0,(cq l).length,0,(cq l).map .str,true,by rw[hsl];rfl,rfl,az _,.inr ⟨rfl,rfl⟩⟩⟩
def MG(l:List Bytes)(r:AV):Prop:=l=[]∧r=.vsl 0 true []
def MH(l:List Bytes)(off len wd:Nat)(cs:List AV)(opn:Bool):Prop:=off=0∧len=l.length∧wd=0∧cs=l.map .str∧opn=true
theorem fa{l:List Bytes}{out:Out}{K:List OB}(h:eD l out K):JN (MG l) (MH l) out K:=by
 rcases h with⟨rfl,rfl,rfl⟩|⟨rfl,rfl⟩
 ·exact .inl ⟨_,rfl,rfl,rfl,rfl⟩
 ·exact .inr ⟨0,0,l.length,0,l.map .str,true,rfl,rfl,az l,rfl,rfl,rfl,rfl,rfl⟩
def sa(k:Kd):AV:=.agg [.vsl 0 true (k.fs.map fun f:Nat=>AV.int .i64 (f:Int)),.bool k.parts,.bool k.many]
def fc:List Bytes:=[nFN,nN,dU,bA,cu,bB,dV]
def fW:List AV:=[sa ⟨[0],false,false⟩,sa ⟨[2,1],true,false⟩,sa ⟨[3],true,false⟩,sa ⟨[4],false,false⟩,sa ⟨[5],false,false⟩,sa ⟨[6],false,true⟩,sa ⟨[7],false,true⟩]
theorem yQ:sQ Tryz.prog Tryz.f59 (fY Tryz.prog (du Tryz.prog pC 40) pC.pm Tryz.f59.ntmps false pC.fuel (Tryz.f59.body.getD .skip) ⟨aL 0 [],[],[]⟩)=some (.ret (.vmap (fc.map .str) fW)):=by kernel_rfl
theorem vQ:ad Tryz.prog 59 [] (.ret (.vmap (fc.map .str) fW)):=ad.run rZ 40 Tryz.func59 rfl (by simp) yQ
end Go.Proofs.YtekcidbpejicdaaGreatDoor
